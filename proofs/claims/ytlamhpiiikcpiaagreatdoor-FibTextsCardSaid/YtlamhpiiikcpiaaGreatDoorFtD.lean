/-
  Walks: Meets of the code's table and of the reference's.
-/
import Derived.Test.YtlamhpiiikcpiaaGreatDoorFtB
import Derived.Test.YtlamhpiiikcpiaaGreatDoorFtA
import Derived.Test.YtlamhpiiikcpiaaGreatDoorRgG
namespace Go.Proofs.YtlamhpiiikcpiaaGreatDoor
open Go.RowKit Go.Shelf Go.Lib Go.Sort
set_option linter.unusedVariables false
set_option linter.unusedSectionVars false
set_option linter.unusedSimpArgs false
namespace Fb
/-- Is a text a header of a width? -/
def hdr (W : Int) (s : ByteArray) : Bool := Cb.isHead s.data.toList && decide ((s.size : Int) = W)
def zeroRl : Rl := ⟨0, ⟨#[]⟩, 0, []⟩
/-- Meets' answer. -/
def meetS (L : List Rl) (W : Int) (s : ByteArray) : Rl × Bool × Int :=
  if hdr W s = true then (match meetL L s.data.toList with | some r => (r, true, 0) | none => (zeroRl, false, 0)) else (zeroRl, false, 21)
theorem head_count (s : List UInt8) : Cb.isHead s = (Cb.isCube s && decide (s.count 120 = 0)) := by
  rw [Bool.eq_iff_iff]
  unfold Cb.isHead Cb.isCube Cb.ofB
  simp only [Bool.and_eq_true, decide_eq_true_eq, List.all_eq_true, List.count_eq_zero, List.contains_cons, List.contains_nil, Bool.or_false, Bool.or_eq_true, beq_iff_eq]
  constructor
  · rintro ⟨h1, h2⟩
    refine ⟨⟨h1, fun x hx => (h2 x hx).imp id .inl⟩, fun h => ?_⟩
    rcases h2 _ h with h | h <;> cases h
  · rintro ⟨⟨h1, h2⟩, h3⟩
    refine ⟨h1, fun x hx => ?_⟩
    rcases h2 x hx with h | h | h
    · exact .inl h
    · exact .inr h
    · subst h; exact absurd hx h3
theorem hdr_false {W : Int} {s : ByteArray} (h : hdr W s = false) : Cb.isCube s.data.toList = false ∨ (Cb.isCube s.data.toList = true ∧ 0 < s.data.toList.count 120) ∨ (Cb.isCube s.data.toList = true ∧ s.data.toList.count 120 = 0 ∧ ¬ (s.size : Int) = W) := by
  unfold hdr at h
  rw [head_count] at h
  cases hc : Cb.isCube s.data.toList with
  | false => exact .inl rfl
  | true =>
    rw [hc, Bool.true_and] at h
    by_cases h0 : s.data.toList.count 120 = 0
    · refine .inr (.inr ⟨rfl, h0, fun e => ?_⟩)
      rw [decide_eq_true h0, Bool.true_and, decide_eq_true e] at h
      cases h
    · exact .inr (.inl ⟨rfl, by omega⟩)
theorem hdr_true {W : Int} {s : ByteArray} (h : hdr W s = true) : Cb.isCube s.data.toList = true ∧ s.data.toList.count 120 = 0 ∧ (s.size : Int) = W ∧ Cb.isHead s.data.toList = true := by
  unfold hdr at h
  simp only [Bool.and_eq_true, decide_eq_true_eq] at h
  have h1 := h.1
  rw [head_count] at h1
  simp only [Bool.and_eq_true, decide_eq_true_eq] at h1
  exact ⟨h1.1, h1.2, h.2, h.1⟩
end Fb
abbrev zeroRC : RC := ⟨0, ⟨#[]⟩, 0, none, 0, 0⟩
theorem zero_rdC (ok : Nat → Prop) (w : World) : RdC ok w zeroRC Fb.zeroRl := ⟨rfl, rfl, rfl, ⟨rdsS_nil w, okV_nil _ _ _⟩, ⟨by show 0 ≤ 140737488351232; omega, by show 0 * 16 ≤ 140737488351232; omega, fun s hs => by cases hs⟩⟩
theorem res_meets (w : World) (b : Nat) (tmps : Array Value) (p k : Int) (m : ByteArray) (a : Option Addr) (n c : Nat) (bo : Bool) (e : Int) (h4 : tmps.getD 4 undef = .pointer (some ⟨b, 0, none⟩)) (h5 : tmps.getD 5 undef = .bool bo) (h6 : tmps.getD 6 undef = .int .i64 e) (h0 : w.cell? ⟨b, 0, none⟩ = some (.int .i64 p)) (h1 : w.cell? ⟨b, 1, none⟩ = some (.string m)) (h2 : w.cell? ⟨b, 2, none⟩ = some (.int .i64 k)) (h3 : w.cell? ⟨b, 3, none⟩ = some (.slice a n c)) :
    (results Tryz.f16 tmps).run Tryz.prog w = .ok (.tuple #[.agg #[.int .i64 p, .string m, .int .i64 k, .slice a n c], .bool bo, .int .i64 e]) w := by
  rw [Array.getD_eq_getD_getElem?] at h4 h5 h6
  simp [results, Tryz.results16, h4, h5, h6, loadVar, asAddr, go_sem, Tryz.isAgg47, Tryz.sizeOf47, h0, h1, h2, h3]
/-- The four cells of a result, written. -/
def set4 (w : World) (b : Nat) (x : RC) : World := (((w.setCell ⟨b, 0, none⟩ (.int .i64 x.p)).setCell ⟨b, 1, none⟩ (.string x.m)).setCell ⟨b, 2, none⟩ (.int .i64 x.k)).setCell ⟨b, 3, none⟩ (.slice x.a x.n x.c)
theorem set4_but (w : World) (b : Nat) (x : RC) : But (fun k => k = b) w (set4 w b x) :=
  (((But.set (S := fun k => k = b) (a := ⟨b, 0, none⟩) rfl _).trans (But.set (S := fun k => k = b) (a := ⟨b, 1, none⟩) rfl _)).trans (But.set (S := fun k => k = b) (a := ⟨b, 2, none⟩) rfl _)).trans (But.set (S := fun k => k = b) (a := ⟨b, 3, none⟩) rfl _)
set_option maxHeartbeats 1600000 in
set_option maxRecDepth 20000 in
theorem meets_bad {ok : Nat → Prop} {w : World} {tb : Nat} {v : Value} {L : List Rl} {W : Int} (h : Tab 0 1 ok w tb v L W) (s : ByteArray) (hs : s.size ≤ maxLen) (hh : Fb.hdr W s = false) :
    Calls Tryz.prog 16 #[.pointer (some ⟨tb, 0, none⟩), .string s] w fun e w' => e = .returned (.tuple #[.agg #[.int .i64 0, .string ⟨#[]⟩, .int .i64 0, .slice none 0 0], .bool false, .int .i64 21]) ∧ Below w.heap.size w w' := by
  obtain ⟨W0, hW0⟩ : ∃ W0, W0 = w.alloc (.cells #[.int .i64 0, .string ⟨#[]⟩, .int .i64 0, .slice none 0 0] 47) := ⟨_, rfl⟩
  have hb0 : Below w.heap.size w W0 := by rw [hW0]; exact (Below.refl _ _).alloc (Nat.le_refl _) _
  have hs0 : W0.heap.size = w.heap.size + 1 := by rw [hW0]; simp
  have hh0 : W0.heap[w.heap.size]? = some (.cells #[.int .i64 0, .string ⟨#[]⟩, .int .i64 0, .slice none 0 0] 47 (0, 0)) := by rw [hW0]; exact heap_alloc_new _ _
  have H0 := Lib.hid (h.below hb0)
  have HI := Lib.hid (is_tab H0.out)
  have HH0 := Lib.hid hh0
  have HB0 := Lib.hid hb0
  have HS0 := Lib.hid hs0
  have HW0 := Lib.hid hW0
  clear h hb0 hh0 hW0 hs0
  obtain ⟨nn, ee, HF, hcase⟩ : ∃ (nn : Nat) (ee : Int), Hid (∀ Wx, Calls Tryz.prog 33 #[.string s] Wx fun e w' => e = .returned (.tuple #[.int .i64 nn, .int .i64 ee]) ∧ Below Wx.heap.size Wx w') ∧ (¬ ee = 0 ∨ (ee = 0 ∧ ¬ nn = 0) ∨ (ee = 0 ∧ nn = 0 ∧ ¬ (s.size : Int) = W)) := by
    rcases Fb.hdr_false hh with h | ⟨h1, h2⟩ | ⟨h1, h2, h3⟩
    · exact ⟨0, 10, fun Wx => Free_bad s Wx hs h, .inl (by decide)⟩
    · exact ⟨_, 0, fun Wx => Free_ok s Wx hs h1, .inr (.inl ⟨rfl, by omega⟩)⟩
    · exact ⟨_, 0, fun Wx => Free_ok s Wx hs h1, .inr (.inr ⟨rfl, h2, h3⟩)⟩
  clear hh
  unfold maxLen at hs
  go_enter Tryz.func16, Tryz.ntmps16
  go_upto_region 1 with fail
  rw [← HW0.out]
  clear HW0
  go_wp2_with fail
  refine HI.out.mono ?_
  rintro e w1 ⟨rfl, rfl⟩
  go_wp2_with fail
  refine (HF.out _).mono ?_
  rintro e w2 ⟨rfl, hb2⟩
  have HB2 := Lib.hid hb2
  have h2 := (hb2.block w.heap.size (by rw [HS0.out]; omega)).trans HH0.out
  have z0 : w2.cell? ⟨w.heap.size, 0, none⟩ = some (.int .i64 0) := by simp [World.cell?, h2]
  have z1 : w2.cell? ⟨w.heap.size, 1, none⟩ = some (.string ⟨#[]⟩) := by simp [World.cell?, h2]
  have z2 : w2.cell? ⟨w.heap.size, 2, none⟩ = some (.int .i64 0) := by simp [World.cell?, h2]
  have z3 : w2.cell? ⟨w.heap.size, 3, none⟩ = some (.slice none 0 0) := by simp [World.cell?, h2]
  have f0 : w2.frozen? ⟨w.heap.size, 0, none⟩ = false := by simp [World.frozen?, h2]
  have f1 : w2.frozen? ⟨w.heap.size, 1, none⟩ = false := by simp [World.frozen?, h2]
  have f2 : w2.frozen? ⟨w.heap.size, 2, none⟩ = false := by simp [World.frozen?, h2]
  have f3 : w2.frozen? ⟨w.heap.size, 3, none⟩ = false := by simp [World.frozen?, h2]
  have t1 := (H0.out.below hb2).c1
  clear h2 hb2
  have hend : ∀ W', W' = set4 w2 w.heap.size zeroRC → Below w.heap.size w W' := fun W' e => by
    rw [e]
    exact (HB0.out.trans (HB2.out.mono (by rw [HS0.out]; omega))).trans ((set4_but w2 w.heap.size zeroRC).toBelow (by have := HB2.out.size; have := HS0.out; omega) (fun k hk => by omega))
  have HEnd := Lib.hid hend
  clear hend
  rcases hcase with hc | ⟨rfl, hc⟩ | ⟨rfl, rfl, hc⟩
  · go_wp2_with fail
    refine bodyPost_ret (res_meets _ w.heap.size _ 0 0 ⟨#[]⟩ none 0 0 false 21 rfl rfl rfl ?_ ?_ ?_ ?_) rfl ?_
    · simp [go_sem, z0]
    · simp [go_sem, z1]
    · simp [go_sem, z2]
    · simp [go_sem, z3]
    exact ⟨rfl, HEnd.out _ rfl⟩
  · have hn : (nn : Int) > 0 := by omega
    go_wp2_with fail
    refine bodyPost_ret (res_meets _ w.heap.size _ 0 0 ⟨#[]⟩ none 0 0 false 21 rfl rfl rfl ?_ ?_ ?_ ?_) rfl ?_
    · simp [go_sem, z0]
    · simp [go_sem, z1]
    · simp [go_sem, z2]
    · simp [go_sem, z3]
    exact ⟨rfl, HEnd.out _ rfl⟩
  · go_wp2_with fail
    refine bodyPost_ret (res_meets _ w.heap.size _ 0 0 ⟨#[]⟩ none 0 0 false 21 rfl rfl rfl ?_ ?_ ?_ ?_) rfl ?_
    · simp [go_sem, z0]
    · simp [go_sem, z1]
    · simp [go_sem, z2]
    · simp [go_sem, z3]
    exact ⟨rfl, HEnd.out _ rfl⟩
namespace Fb
theorem meetL_none {L : List Rl} {h : List UInt8} (hn : ∀ j (hj : j < L.length), has L[j] h = false) : meetL L h = none := by
  unfold meetL
  rw [List.find?_eq_none]
  intro x hx
  obtain ⟨j, hj, rfl⟩ := List.getElem_of_mem hx
  rw [hn j hj]
  simp
theorem meetL_at {L : List Rl} {h : List UInt8} {i : Nat} (hi : i < L.length) (h1 : has L[i] h = true) (hn : ∀ j (hj : j < L.length), j < i → has L[j] h = false) : meetL L h = some L[i] := by
  unfold meetL
  rw [List.find?_eq_some_iff_append]
  refine ⟨h1, L.take i, L.drop (i + 1), ?_, fun a ha => ?_⟩
  · rw [← List.drop_eq_getElem_cons hi, List.take_append_drop]
  · obtain ⟨j, hj, rfl⟩ := List.getElem_of_mem ha
    rw [List.length_take] at hj
    rw [List.getElem_take, hn j (by omega) (by omega)]
    rfl
end Fb
set_option maxHeartbeats 1600000 in
set_option maxRecDepth 20000 in
theorem meets_go {ok : Nat → Prop} {w : World} {tb : Nat} {v : Value} {L : List Rl} {W : Int} (h : Tab 0 1 ok w tb v L W) (s : ByteArray) (hs : s.size ≤ maxLen) (hh : Fb.hdr W s = true) :
    Calls Tryz.prog 16 #[.pointer (some ⟨tb, 0, none⟩), .string s] w fun e w' => Below w.heap.size w w' ∧ ∃ x : RC, RdC (fun b => w.heap.size ≤ b) w' x (Fb.meetS L W s).1 ∧ e = .returned (.tuple #[.agg #[.int .i64 x.p, .string x.m, .int .i64 x.k, .slice x.a x.n x.c], .bool (Fb.meetS L W s).2.1, .int .i64 (Fb.meetS L W s).2.2]) := by
  obtain ⟨W0, hW0⟩ : ∃ W0, W0 = w.alloc (.cells #[.int .i64 0, .string ⟨#[]⟩, .int .i64 0, .slice none 0 0] 47) := ⟨_, rfl⟩
  have hb0 : Below w.heap.size w W0 := by rw [hW0]; exact (Below.refl _ _).alloc (Nat.le_refl _) _
  have hs0 : W0.heap.size = w.heap.size + 1 := by rw [hW0]; simp
  have hh0 : W0.heap[w.heap.size]? = some (.cells #[.int .i64 0, .string ⟨#[]⟩, .int .i64 0, .slice none 0 0] 47 (0, 0)) := by rw [hW0]; exact heap_alloc_new _ _
  have H0 := Lib.hid (h.below hb0)
  have HI := Lib.hid (is_tab H0.out)
  have HH0 := Lib.hid hh0
  have HB0 := Lib.hid hb0
  have HS0 := Lib.hid hs0
  have HW0 := Lib.hid hW0
  obtain ⟨n, hn⟩ : ∃ n, n = L.length := ⟨_, rfl⟩
  have HN := Lib.hid hn
  obtain ⟨adv, capv, rfl, hvc, hvm⟩ := h.rd.form
  rw [← hn] at H0 hvc
  have HR0 := Lib.hid H0.out.rd
  unfold maxLen at hvm
  obtain ⟨hc1, hc2, hc3, hc4⟩ := Fb.hdr_true hh
  have HF : Hid (∀ Wx, Calls Tryz.prog 33 #[.string s] Wx fun e w' => e = .returned (.tuple #[.int .i64 0, .int .i64 0]) ∧ Below Wx.heap.size Wx w') := fun Wx => by
    have := Free_ok s Wx hs hc1
    rw [hc2] at this
    exact this
  have HS : Hid ((∀ r, Fb.meetL L s.data.toList = some r → Fb.meetS L W s = (r, true, 0)) ∧ (Fb.meetL L s.data.toList = none → Fb.meetS L W s = (Fb.zeroRl, false, 0))) := ⟨fun r hr => by unfold Fb.meetS; rw [if_pos hh, hr], fun hr => by unfold Fb.meetS; rw [if_pos hh, hr]⟩
  have HSz := Lib.hid hs
  generalize Fb.meetS L W s = SS at HS ⊢
  clear h hb0 hh0 hW0 hs0 hc1 hc2 hc4 hh hn
  unfold maxLen at hs
  go_enter Tryz.func16, Tryz.ntmps16
  go_upto_region 1 with fail
  rw [← HW0.out]
  clear HW0
  go_wp2_with fail
  refine HI.out.mono ?_
  rintro e w1 ⟨rfl, rfl⟩
  go_wp2_with fail
  refine (HF.out _).mono ?_
  rintro e w2 ⟨rfl, hb2⟩
  have HB2 := Lib.hid hb2
  have HH2 := Lib.hid ((hb2.block w.heap.size (by rw [HS0.out]; omega)).trans HH0.out)
  have t0 := (H0.out.below hb2).c0
  have t1 := (H0.out.below hb2).c1
  have HR2 := Lib.hid (HR0.out.below hb2)
  have hs2 : w.heap.size < w2.heap.size := by have := hb2.size; have := HS0.out; omega
  clear hb2
  go_wp2_with fail
  go_loopw [44] (fun s44 wr => ∃ i : Nat, s44 = .int .i64 i ∧ i ≤ n ∧ Hid (∀ j (hj : j < L.length), j < i → Fb.has L[j] s.data.toList = false) ∧ Hid (Below w2.heap.size w2 wr)) (fun s44 _ => n - (intOf s44).toNat)
  case atStart => exact ⟨0, rfl, Nat.zero_le _, fun j _ h => absurd h (Nat.not_lt_zero _), Below.refl _ _⟩
  case round =>
    obtain ⟨wo, rfl⟩ : ∃ wo : World, wo = wr := ⟨wr, rfl⟩
    obtain ⟨i, rfl, hin, HNo, HB⟩ := hrel
    have HHo : Hid (wo.heap[w.heap.size]? = some (.cells #[.int .i64 0, .string ⟨#[]⟩, .int .i64 0, .slice none 0 0] 47 (0, 0))) := (HB.out.block _ hs2).trans HH2.out
    by_cases hlt : i < n
    · have hiL : i < L.length := by rw [← HN.out]; exact hlt
      obtain ⟨b, off, x, rfl, hb, _, x0, x1, x2, x3, hx⟩ := HR2.out.get i hiL
      have X0 := (HB.out.cell (p := ⟨b, off + i * 4, none⟩) hb).trans x0
      have X1 := (HB.out.cell (p := ⟨b, off + i * 4 + 1, none⟩) hb).trans x1
      have X2 := (HB.out.cell (p := ⟨b, off + i * 4 + 2, none⟩) hb).trans x2
      have X3 := (HB.out.cell (p := ⟨b, off + i * 4 + 3, none⟩) hb).trans x3
      obtain ⟨W3, hW3⟩ : ∃ W3, W3 = wo.alloc (.cells #[.int .i64 x.p, .string x.m, .int .i64 x.k, .slice x.a x.n x.c] 47) := ⟨_, rfl⟩
      have hb3 : Below wo.heap.size wo W3 := by rw [hW3]; exact (Below.refl _ _).alloc (Nat.le_refl _) _
      have hs3 : W3.heap.size = wo.heap.size + 1 := by rw [hW3]; simp
      have hh3 : W3.heap[wo.heap.size]? = some (.cells #[.int .i64 x.p, .string x.m, .int .i64 x.k, .slice x.a x.n x.c] 47 (0, 0)) := by rw [hW3]; exact heap_alloc_new _ _
      have q1 : W3.cell? ⟨wo.heap.size, 1, none⟩ = some (.string x.m) := by simp [World.cell?, hh3]
      obtain ⟨hv, hhv⟩ : ∃ hv, Fb.has L[i] s.data.toList = hv := ⟨_, rfl⟩
      obtain ⟨he, hhe⟩ : ∃ he, (Cb.HasS x.m.data.toList s.data.toList).2 = he := ⟨_, rfl⟩
      have hS1 : Cb.HasS x.m.data.toList s.data.toList = (hv, he) := by
        rw [← hhv, ← hhe]
        unfold Fb.has
        rw [← hx.m]
      have HHas : Hid (∀ Wx, Calls Tryz.prog 34 #[.string x.m, .string s] Wx fun e w' => e = .returned (.tuple #[.bool hv, .int .i64 he]) ∧ Below Wx.heap.size Wx w') := fun Wx => Has_any x.m s Wx (by rw [hx.m]; have := hx.z.m; unfold maxLen; omega) HSz.out (hv, he) hS1
      have HX := Lib.hid ((hx.mono (ok' := fun _ => True) fun _ _ => trivial).below (HB.out.trans (hb3.mono HB.out.size)))
      have HHv := Lib.hid hhv
      have HW3 := Lib.hid hW3
      have HB3 := Lib.hid hb3
      have HH3 := Lib.hid hh3
      have HS3 := Lib.hid hs3
      clear x0 x1 x2 x3 hx hW3 hb3 hh3 hs3 hS1 hhv hhe
      go_upto_region 9 with fail
      rw [← HW3.out]
      clear HW3 X0 X1 X2 X3
      go_wp2_with fail
      refine (HHas.out _).mono ?_
      rintro e w4 ⟨rfl, hb4⟩
      have HB4 := Lib.hid hb4
      have hs4 := hb4.size
      have hs3' := HS3.out
      cases hv with
      | true =>
        have h4 := (hb4.block wo.heap.size (by omega)).trans HH3.out
        have p0 : w4.cell? ⟨wo.heap.size, 0, none⟩ = some (.int .i64 x.p) := by simp [World.cell?, h4]
        have p1 : w4.cell? ⟨wo.heap.size, 1, none⟩ = some (.string x.m) := by simp [World.cell?, h4]
        have p2 : w4.cell? ⟨wo.heap.size, 2, none⟩ = some (.int .i64 x.k) := by simp [World.cell?, h4]
        have p3 : w4.cell? ⟨wo.heap.size, 3, none⟩ = some (.slice x.a x.n x.c) := by simp [World.cell?, h4]
        obtain ⟨W5, hW5⟩ : ∃ W5, W5 = w4.alloc (.cells #[.int .i64 x.p, .string x.m, .int .i64 x.k, .slice x.a x.n x.c] 47) := ⟨_, rfl⟩
        have hb5 : Below w4.heap.size w4 W5 := by rw [hW5]; exact (Below.refl _ _).alloc (Nat.le_refl _) _
        have hs5 : W5.heap.size = w4.heap.size + 1 := by rw [hW5]; simp
        have hh5 : W5.heap[w4.heap.size]? = some (.cells #[.int .i64 x.p, .string x.m, .int .i64 x.k, .slice x.a x.n x.c] 47 (0, 0)) := by rw [hW5]; exact heap_alloc_new _ _
        have HCo := copied_any (fun _ => True) _ [L[i]] W5 (one_rdsR hh5 ((HX.out.below hb4).below hb5) trivial) (by simp)
        rw [hW5] at HCo
        have HCo := Lib.hid HCo
        have hB5 : Below wo.heap.size wo W5 := (HB3.out.trans (hb4.mono (by omega))).trans (hb5.mono (by omega))
        rw [hW5] at hB5
        have HB5 := Lib.hid hB5
        have hsz5 : (w4.alloc (.cells #[.int .i64 x.p, .string x.m, .int .i64 x.k, .slice x.a x.n x.c] 47)).heap.size = w4.heap.size + 1 := by simp
        have HSz5 := Lib.hid hsz5
        clear h4 hb4 hb5 hs5 hh5 hW5 hB5 hsz5
        go_wp2_with fail
        refine HCo.out.mono ?_
        rintro e w6 ⟨ad, c, rfl, hr6, hb6⟩
        obtain ⟨b6, off6, y, rfl, hbb6, _, y0, y1, y2, y3, hy⟩ := RdsR.get hr6 0 (by simp)
        have Y0 : w6.cell? ⟨b6, off6, none⟩ = some (.int .i64 y.p) := by simpa using y0
        have Y1 : w6.cell? ⟨b6, off6 + 1, none⟩ = some (.string y.m) := by simpa using y1
        have Y2 : w6.cell? ⟨b6, off6 + 2, none⟩ = some (.int .i64 y.k) := by simpa using y2
        have Y3 : w6.cell? ⟨b6, off6 + 3, none⟩ = some (.slice y.a y.n y.c) := by simpa using y3
        have HB6 : Hid (Below wo.heap.size wo w6) := HB5.out.trans (hb6.mono (by rw [HSz5.out]; omega))
        have hwo : w.heap.size < wo.heap.size := Nat.lt_of_lt_of_le hs2 HB.out.size
        have h6 := (HB6.out.block _ hwo).trans HHo.out
        have z0 : w6.cell? ⟨w.heap.size, 0, none⟩ = some (.int .i64 0) := by simp [World.cell?, h6]
        have z1 : w6.cell? ⟨w.heap.size, 1, none⟩ = some (.string ⟨#[]⟩) := by simp [World.cell?, h6]
        have z2 : w6.cell? ⟨w.heap.size, 2, none⟩ = some (.int .i64 0) := by simp [World.cell?, h6]
        have z3 : w6.cell? ⟨w.heap.size, 3, none⟩ = some (.slice none 0 0) := by simp [World.cell?, h6]
        have f0 : w6.frozen? ⟨w.heap.size, 0, none⟩ = false := by simp [World.frozen?, h6]
        have f1 : w6.frozen? ⟨w.heap.size, 1, none⟩ = false := by simp [World.frozen?, h6]
        have f2 : w6.frozen? ⟨w.heap.size, 2, none⟩ = false := by simp [World.frozen?, h6]
        have f3 : w6.frozen? ⟨w.heap.size, 3, none⟩ = false := by simp [World.frozen?, h6]
        have HY := Lib.hid hy
        clear hr6 hb6 y0 y1 y2 y3 hy h6 p0 p1 p2 p3
        go_wp2_with fail
        have hmt : Fb.meetL L s.data.toList = some L[i] := Fb.meetL_at hiL HHv.out HNo.out
        rw [HS.out.1 _ hmt]
        refine bodyPost_ret (res_meets _ w.heap.size _ y.p y.k y.m y.a y.n y.c true 0 rfl rfl rfl ?_ ?_ ?_ ?_) rfl ?_
        · simp [go_sem, z0]
        · simp [go_sem, z1]
        · simp [go_sem, z2]
        · simp [go_sem, z3]
        have hbt := set4_but w6 w.heap.size y
        refine ⟨((HB0.out.trans (HB2.out.mono (by rw [HS0.out]; omega))).trans ((HB.out.trans (HB6.out.mono HB.out.size)).mono (by omega))).trans (hbt.toBelow (by have := HB6.out.size; omega) (fun k hk => by omega)), y, ?_, rfl⟩
        exact (HY.out.but hbt (fun b hb e => by have := HSz5.out; omega)).mono fun b hb => by have := HSz5.out; omega
      | false =>
        go_wp2_with fail
        go_roundw
        case rel => exact ⟨i + 1, by first | rfl | go_num, by omega, fun j hj hji => by
          rcases Nat.lt_or_ge j i with h | h
          · exact HNo.out j hj h
          · have e : j = i := by omega
            subst e
            exact HHv.out, HB.out.trans ((HB3.out.trans (HB4.out.mono (by omega))).mono HB.out.size)⟩
        case measure => simp [intOf]; omega
    · have hin' : i = n := by omega
      have hmt : Fb.meetL L s.data.toList = none := Fb.meetL_none fun j hj => HNo.out j hj (by rw [hin', HN.out]; exact hj)
      have HMt := Lib.hid hmt
      have h6 := HHo.out
      have z0 : wo.cell? ⟨w.heap.size, 0, none⟩ = some (.int .i64 0) := by simp [World.cell?, h6]
      have z1 : wo.cell? ⟨w.heap.size, 1, none⟩ = some (.string ⟨#[]⟩) := by simp [World.cell?, h6]
      have z2 : wo.cell? ⟨w.heap.size, 2, none⟩ = some (.int .i64 0) := by simp [World.cell?, h6]
      have z3 : wo.cell? ⟨w.heap.size, 3, none⟩ = some (.slice none 0 0) := by simp [World.cell?, h6]
      have f0 : wo.frozen? ⟨w.heap.size, 0, none⟩ = false := by simp [World.frozen?, h6]
      have f1 : wo.frozen? ⟨w.heap.size, 1, none⟩ = false := by simp [World.frozen?, h6]
      have f2 : wo.frozen? ⟨w.heap.size, 2, none⟩ = false := by simp [World.frozen?, h6]
      have f3 : wo.frozen? ⟨w.heap.size, 3, none⟩ = false := by simp [World.frozen?, h6]
      have hwo : w.heap.size < wo.heap.size := Nat.lt_of_lt_of_le hs2 HB.out.size
      clear h6 hmt
      go_wp2_with fail
      rw [HS.out.2 HMt.out]
      refine bodyPost_ret (res_meets _ w.heap.size _ 0 0 ⟨#[]⟩ none 0 0 false 0 rfl rfl rfl ?_ ?_ ?_ ?_) rfl ?_
      · simp [go_sem, z0]
      · simp [go_sem, z1]
      · simp [go_sem, z2]
      · simp [go_sem, z3]
      have hbt := set4_but wo w.heap.size zeroRC
      exact ⟨((HB0.out.trans (HB2.out.mono (by rw [HS0.out]; omega))).trans (HB.out.mono (by omega))).trans (hbt.toBelow (by omega) (fun k hk => by omega)), zeroRC, zero_rdC _ _, rfl⟩
/-- Meets, at every text. -/
theorem meets_any {ok : Nat → Prop} {w : World} {tb : Nat} {v : Value} {L : List Rl} {W : Int} (h : Tab 0 1 ok w tb v L W) (s : ByteArray) (hs : s.size ≤ maxLen) :
    Calls Tryz.prog 16 #[.pointer (some ⟨tb, 0, none⟩), .string s] w fun e w' => Below w.heap.size w w' ∧ ∃ x : RC, RdC (fun b => w.heap.size ≤ b) w' x (Fb.meetS L W s).1 ∧ e = .returned (.tuple #[.agg #[.int .i64 x.p, .string x.m, .int .i64 x.k, .slice x.a x.n x.c], .bool (Fb.meetS L W s).2.1, .int .i64 (Fb.meetS L W s).2.2]) := by
  cases hh : Fb.hdr W s with
  | true => exact meets_go h s hs hh
  | false =>
    refine (meets_bad h s hs hh).mono ?_
    rintro e w' ⟨rfl, hb⟩
    have : Fb.meetS L W s = (Fb.zeroRl, false, 21) := by unfold Fb.meetS; rw [if_neg (by rw [hh]; simp)]
    rw [this]
    exact ⟨hb, zeroRC, zero_rdC _ _, rfl⟩
/-- Lookup's answer, out of Meets': a kind, ports, a number. -/
def Fb.lookO (S : Rl × Bool × Int) : Int × List ByteArray × Int := (if S.2.2 = 0 ∧ S.2.1 = false then 1 else S.1.k, S.1.ps, S.2.2)
def Fb.lookS (L : List Rl) (W : Int) (s : ByteArray) : Int × List ByteArray × Int := Fb.lookO (Fb.meetS L W s)
theorem Fb.meetS_cases (L : List Rl) (W : Int) (s : ByteArray) : (∃ r, Fb.meetS L W s = (r, true, 0)) ∨ Fb.meetS L W s = (Fb.zeroRl, false, 0) ∨ Fb.meetS L W s = (Fb.zeroRl, false, 21) := by
  unfold Fb.meetS
  split
  · split
    · exact .inl ⟨_, rfl⟩
    · exact .inr (.inl rfl)
  · exact .inr (.inr rfl)
theorem res_look (w : World) (b : Nat) (tmps : Array Value) (k : Int) (a : Option Addr) (n c : Nat) (e : Int) (h4 : tmps.getD 4 undef = .pointer (some ⟨b, 0, none⟩)) (h5 : tmps.getD 5 undef = .int .i64 e) (h0 : w.cell? ⟨b, 0, none⟩ = some (.int .i64 k)) (h1 : w.cell? ⟨b, 1, none⟩ = some (.slice a n c)) :
    (results Tryz.f15 tmps).run Tryz.prog w = .ok (.tuple #[.agg #[.int .i64 k, .slice a n c], .int .i64 e]) w := by
  rw [Array.getD_eq_getD_getElem?] at h4 h5
  simp [results, Tryz.results15, h4, h5, loadVar, asAddr, go_sem, Tryz.isAgg45, Tryz.sizeOf45, h0, h1]
/-- What a Lookup is: its action's ports in blocks that a test allows. -/
def LookPost (ok : Nat → Prop) (w : World) (S : Int × List ByteArray × Int) (e : Ending) (w' : World) : Prop :=
  Below w.heap.size w w' ∧ ∃ (a : Option Addr) (n c : Nat), RdsO ok w' (.slice a n c) S.2.1 ∧ e = .returned (.tuple #[.agg #[.int .i64 S.1, .slice a n c], .int .i64 S.2.2])
set_option maxHeartbeats 1600000 in
set_option maxRecDepth 20000 in
theorem lookup_any {ok : Nat → Prop} {w : World} {tb : Nat} {v : Value} {L : List Rl} {W : Int} (h : Tab 0 1 ok w tb v L W) (s : ByteArray) (hs : s.size ≤ maxLen) :
    Calls Tryz.prog 15 #[.pointer (some ⟨tb, 0, none⟩), .string s] w (LookPost (fun b => w.heap.size ≤ b) w (Fb.lookS L W s)) := by
  obtain ⟨W0, hW0⟩ : ∃ W0, W0 = w.alloc (.cells #[.int .i64 0, .slice none 0 0] 45) := ⟨_, rfl⟩
  have hb0 : Below w.heap.size w W0 := by rw [hW0]; exact (Below.refl _ _).alloc (Nat.le_refl _) _
  have hs0 : W0.heap.size = w.heap.size + 1 := by rw [hW0]; simp
  have hh0 : W0.heap[w.heap.size]? = some (.cells #[.int .i64 0, .slice none 0 0] 45 (0, 0)) := by rw [hW0]; exact heap_alloc_new _ _
  have HM := Lib.hid (meets_any (h.below hb0) s hs)
  have HB0 := Lib.hid hb0
  have HS0 := Lib.hid hs0
  have HH0 := Lib.hid hh0
  have HW0 := Lib.hid hW0
  unfold Fb.lookS
  have hcs := Fb.meetS_cases L W s
  generalize Fb.meetS L W s = S at HM hcs ⊢
  clear h hb0 hs0 hh0 hW0 hs
  have key : ∀ (S : Rl × Bool × Int) (W2 : World) (x : RC), Hid (Below W0.heap.size W0 W2) → Hid (RdC (fun b => W0.heap.size ≤ b) W2 x S.1) → ∀ (k : Int) (c0 c1 : Value), Fb.lookO S = (k, S.1.ps, S.2.2) → ∀ (W4 : World), Below W2.heap.size W2 W4 → LookPost (fun b => w.heap.size ≤ b) w (Fb.lookO S) (.returned (.tuple #[.agg #[.int .i64 k, .slice x.a x.n x.c], .int .i64 S.2.2])) ((W4.setCell ⟨w.heap.size, 0, none⟩ c0).setCell ⟨w.heap.size, 1, none⟩ c1) := by
    intro S W2 x hb2 hx k c0 c1 hS W4 hb4
    rw [hS]
    have hbt : But (fun b => b = w.heap.size) W4 ((W4.setCell ⟨w.heap.size, 0, none⟩ c0).setCell ⟨w.heap.size, 1, none⟩ c1) := (But.set (S := fun b => b = w.heap.size) (a := ⟨w.heap.size, 0, none⟩) rfl _).trans (But.set (S := fun b => b = w.heap.size) (a := ⟨w.heap.size, 1, none⟩) rfl _)
    have h0 := HS0.out
    have h2 := hb2.out.size
    refine ⟨((HB0.out.trans (hb2.out.mono (by omega))).trans (hb4.mono (by omega))).trans (hbt.toBelow (by have := hb4.size; omega) (fun k hk => by omega)), x.a, x.n, x.c, ?_, rfl⟩
    exact ((hx.out.s.below hb4).but hbt (fun b hb e => by omega)).mono fun b hb => by omega
  have HK := Lib.hid key
  clear key
  go_enter Tryz.func15, Tryz.ntmps15
  go_upto_region 1 with fail
  rw [← HW0.out]
  clear HW0
  go_wp2_with fail
  refine HM.out.mono ?_
  rintro e w2 ⟨hb2, x, hx, rfl⟩
  have HB2 := Lib.hid hb2
  have HX := Lib.hid hx
  have h2 := (hb2.block w.heap.size (by rw [HS0.out]; omega)).trans HH0.out
  have hlt : w.heap.size < w2.heap.size := by have := hb2.size; have := HS0.out; omega
  have hb3 : Below w2.heap.size w2 (w2.alloc (.cells #[.int .i64 x.p, .string x.m, .int .i64 x.k, .slice x.a x.n x.c] 47)) := (Below.refl _ _).alloc (Nat.le_refl _) _
  have h3 := (hb3.block w.heap.size hlt).trans h2
  have z0 : (w2.alloc (.cells #[.int .i64 x.p, .string x.m, .int .i64 x.k, .slice x.a x.n x.c] 47)).cell? ⟨w.heap.size, 0, none⟩ = some (.int .i64 0) := by simp only [World.cell?, h3]; rfl
  have z1 : (w2.alloc (.cells #[.int .i64 x.p, .string x.m, .int .i64 x.k, .slice x.a x.n x.c] 47)).cell? ⟨w.heap.size, 1, none⟩ = some (.slice none 0 0) := by simp only [World.cell?, h3]; rfl
  have f0 : (w2.alloc (.cells #[.int .i64 x.p, .string x.m, .int .i64 x.k, .slice x.a x.n x.c] 47)).frozen? ⟨w.heap.size, 0, none⟩ = false := by simp [World.frozen?, h3]
  have f1 : (w2.alloc (.cells #[.int .i64 x.p, .string x.m, .int .i64 x.k, .slice x.a x.n x.c] 47)).frozen? ⟨w.heap.size, 1, none⟩ = false := by simp [World.frozen?, h3]
  have HB3 := Lib.hid hb3
  obtain ⟨W3, hW3⟩ : ∃ W3, W3 = w2.alloc (.cells #[.int .i64 x.p, .string x.m, .int .i64 x.k, .slice x.a x.n x.c] 47) := ⟨_, rfl⟩
  have g0 : W3.heap[w2.heap.size]? = some (.cells #[.int .i64 x.p, .string x.m, .int .i64 x.k, .slice x.a x.n x.c] 47 (0, 0)) := by rw [hW3]; exact heap_alloc_new _ _
  have p2 : W3.cell? ⟨w2.heap.size, 2, none⟩ = some (.int .i64 x.k) := by simp [World.cell?, g0]
  have p3 : W3.cell? ⟨w2.heap.size, 3, none⟩ = some (.slice x.a x.n x.c) := by simp [World.cell?, g0]
  have pf2 : W3.frozen? ⟨w2.heap.size, 2, none⟩ = false := by simp [World.frozen?, g0]
  rw [← hW3] at z0 z1 f0 f1 HB3
  have HW3 := Lib.hid hW3
  have hne : ¬ w.heap.size = w2.heap.size := by omega
  have hne' : ¬ w2.heap.size = w.heap.size := by omega
  clear hb2 hx h2 h3 hb3 hW3 g0
  go_upto_region 2 with fail
  rw [← HW3.out]
  clear HW3
  rcases hcs with ⟨r, rfl⟩ | rfl | rfl
  · go_wp2_with fail
    refine bodyPost_ret (res_look _ w.heap.size _ x.k x.a x.n x.c 0 rfl rfl ?_ ?_) rfl ?_
    · simp [go_sem, z0]
    · simp [go_sem, z1]
    exact HK.out _ _ _ HB2 HX x.k _ _ (by unfold Fb.lookO; rw [if_neg (by simp)]; rw [HX.out.k]) _ HB3.out
  · obtain ⟨W4, hW4⟩ : ∃ W4, W4 = W3.setCell ⟨w2.heap.size, 2, none⟩ (.int .i64 1) := ⟨_, rfl⟩
    have hb4 : Below w2.heap.size w2 W4 := by rw [hW4]; exact HB3.out.setCell (Nat.le_refl _) _
    have q2 : W4.cell? ⟨w2.heap.size, 2, none⟩ = some (.int .i64 1) := by rw [hW4]; exact cell_set_same _ p2
    have q3 : W4.cell? ⟨w2.heap.size, 3, none⟩ = some (.slice x.a x.n x.c) := by rw [hW4]; exact (cell_set_other _ (by simp)).trans p3
    have hbt : But (fun b => b = w2.heap.size) W3 W4 := by rw [hW4]; exact But.set (S := fun b => b = w2.heap.size) (a := ⟨w2.heap.size, 2, none⟩) rfl _
    have hl3 : w.heap.size < W3.heap.size := by have := HB3.out.size; omega
    have y0 := (hbt.cell (p := ⟨w.heap.size, 0, none⟩) hl3 hne).trans z0
    have y1 := (hbt.cell (p := ⟨w.heap.size, 1, none⟩) hl3 hne).trans z1
    have yf0 := (hbt.frozen (p := ⟨w.heap.size, 0, none⟩) hl3 hne).trans f0
    have yf1 := (hbt.frozen (p := ⟨w.heap.size, 1, none⟩) hl3 hne).trans f1
    have HW4 := Lib.hid hW4
    have HB4 := Lib.hid hb4
    clear hW4 hb4 hbt
    go_upto_region 4 with fail
    rw [← HW4.out]
    clear HW4 p2 p3 pf2 z0 z1 f0 f1
    go_wp2_with fail
    refine bodyPost_ret (res_look _ w.heap.size _ 1 x.a x.n x.c 0 rfl rfl ?_ ?_) rfl ?_
    · simp [go_sem, y0]
    · simp [go_sem, y1]
    exact HK.out _ _ _ HB2 HX 1 _ _ (by unfold Fb.lookO; rw [if_pos ⟨rfl, rfl⟩]) _ HB4.out
  · go_wp2_with fail
    refine bodyPost_ret (res_look _ w.heap.size _ x.k x.a x.n x.c 21 rfl rfl ?_ ?_) rfl ?_
    · simp [go_sem, z0]
    · simp [go_sem, z1]
    exact HK.out _ _ _ HB2 HX x.k _ _ (by unfold Fb.lookO; rw [if_neg (by simp)]; rw [HX.out.k]) _ HB3.out
end Go.Proofs.YtlamhpiiikcpiaaGreatDoor
