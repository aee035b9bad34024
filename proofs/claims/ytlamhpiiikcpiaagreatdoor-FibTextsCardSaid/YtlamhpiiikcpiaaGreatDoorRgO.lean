/-
  Walks over the reference of rules: action in every case; a line's rule (printed by wip/gen_rpp.py).
-/
import Derived.Test.YtlamhpiiikcpiaaGreatDoorRgN
import Derived.Test.YtlamhpiiikcpiaaGreatDoorRgM
import Derived.Test.YtlamhpiiikcpiaaGreatDoorRgF
namespace Go.Proofs.YtlamhpiiikcpiaaGreatDoor
open Go.RowKit Go.Shelf Go.Lib Go.Sort
set_option linter.unusedVariables false
set_option linter.unusedSectionVars false
set_option linter.unusedSimpArgs false
theorem ract_any {ok : Nat → Prop} {rb i : Nat} {v : Value} {ws : List Wrd} {w : World} (h : RRd ok rb i 0 0 0 v ws w) (hok : ∀ b, ok b → b < w.heap.size) (hi : i ≤ 10) (hz : ∀ x ∈ ws, x.t.size ≤ 3000000) :
    Calls Tryz.prog 96 #[.pointer (some ⟨rb, 0, none⟩)] w (RActPost ok rb i v ws w) := by
  by_cases h3 : (Pr.wd ws i).t = ⟨#[97, 108, 108]⟩
  · exact ract_all h hok hi h3 hz
  · by_cases h4 : (Pr.wd ws i).t = ⟨#[97, 110, 121]⟩
    · exact ract_anyk h hok hi h4 hz
    · exact ract_plain h hok hi h3 h4
theorem Pr.act_err {ws : List Wrd} {i : Nat} {c : Int} {j : Nat} (h : Pr.act ws i = .error (c, j)) : c ≠ 0 := by
  unfold Pr.act at h
  split at h
  · injection h with h; injection h with h _; omega
  · split at h
    · cases h
    · split at h
      · injection h with h; injection h with h _; omega
      · split at h
        · injection h with h; injection h with h _; omega
        · split at h
          · injection h with h; injection h with h _; omega
          · split at h
            · injection h with h; injection h with h _; omega
            · cases h
/-- A rule in block ob, and the result's block N, still zero. -/
structure RbS (w : World) (ob N : Nat) (p : Int) (m : ByteArray) (k : Int) (u : Value) : Prop where
  c0 : w.cell? ⟨ob, 0, none⟩ = some (.int .i64 p)
  c1 : w.cell? ⟨ob, 1, none⟩ = some (.string m)
  c2 : w.cell? ⟨ob, 2, none⟩ = some (.int .i64 k)
  c3 : w.cell? ⟨ob, 3, none⟩ = some u
  f0 : w.frozen? ⟨ob, 0, none⟩ = false
  f1 : w.frozen? ⟨ob, 1, none⟩ = false
  f2 : w.frozen? ⟨ob, 2, none⟩ = false
  f3 : w.frozen? ⟨ob, 3, none⟩ = false
  nb : w.heap[N]? = some (.cells #[.int .i64 0, .string ⟨#[]⟩, .int .i64 0, .slice none 0 0] 47 (0, 0))
theorem heapLt {w : World} {N : Nat} {o : Obj} (h : w.heap[N]? = some o) : N < w.heap.size := (Array.getElem?_eq_some_iff.1 h).1
theorem RbS.but {S : Nat → Prop} {w w' : World} {ob N : Nat} {p : Int} {m : ByteArray} {k : Int} {u : Value} (h : RbS w ob N p m k u) (hb : But S w w') (h1 : ¬ S ob) (h2 : ¬ S N) : RbS w' ob N p m k u :=
  have hl := cellLt h.c0
  ⟨(hb.cell (p := ⟨ob, 0, none⟩) hl h1).trans h.c0, (hb.cell (p := ⟨ob, 1, none⟩) hl h1).trans h.c1, (hb.cell (p := ⟨ob, 2, none⟩) hl h1).trans h.c2, (hb.cell (p := ⟨ob, 3, none⟩) hl h1).trans h.c3,
    (hb.frozen (p := ⟨ob, 0, none⟩) hl h1).trans h.f0, (hb.frozen (p := ⟨ob, 1, none⟩) hl h1).trans h.f1, (hb.frozen (p := ⟨ob, 2, none⟩) hl h1).trans h.f2, (hb.frozen (p := ⟨ob, 3, none⟩) hl h1).trans h.f3,
    (hb.block N (heapLt h.nb) h2).trans h.nb⟩
theorem RbS.below {w w' : World} {ob N : Nat} {p : Int} {m : ByteArray} {k : Int} {u : Value} (h : RbS w ob N p m k u) (hb : Below w.heap.size w w') : RbS w' ob N p m k u := h.but (S := fun _ => False) (But.below hb) (fun h => h) (fun h => h)
theorem RbS.set0 {w : World} {ob N : Nat} {p : Int} {m : ByteArray} {k : Int} {u : Value} (h : RbS w ob N p m k u) (hne : N ≠ ob) (q : Int) {W : World} (hW : W = w.setCell ⟨ob, 0, none⟩ (.int .i64 q)) : RbS W ob N q m k u ∧ But (fun b => b = ob) w W := by
  have hb : But (fun b => b = ob) w W := by rw [hW]; exact But.set (S := fun b => b = ob) (a := ⟨ob, 0, none⟩) rfl _
  have hnb := (hb.block N (heapLt h.nb) hne).trans h.nb
  subst hW
  exact ⟨⟨cell_set_same _ h.c0, (cell_set_other _ (by simp)).trans h.c1, (cell_set_other _ (by simp)).trans h.c2, (cell_set_other _ (by simp)).trans h.c3, by rw [World.frozen?_setCell]; exact h.f0, by rw [World.frozen?_setCell]; exact h.f1, by rw [World.frozen?_setCell]; exact h.f2, by rw [World.frozen?_setCell]; exact h.f3, hnb⟩, hb⟩
theorem RbS.set1 {w : World} {ob N : Nat} {p : Int} {m : ByteArray} {k : Int} {u : Value} (h : RbS w ob N p m k u) (hne : N ≠ ob) (s : ByteArray) {W : World} (hW : W = w.setCell ⟨ob, 1, none⟩ (.string s)) : RbS W ob N p s k u ∧ But (fun b => b = ob) w W := by
  have hb : But (fun b => b = ob) w W := by rw [hW]; exact But.set (S := fun b => b = ob) (a := ⟨ob, 1, none⟩) rfl _
  have hnb := (hb.block N (heapLt h.nb) hne).trans h.nb
  subst hW
  exact ⟨⟨(cell_set_other _ (by simp)).trans h.c0, cell_set_same _ h.c1, (cell_set_other _ (by simp)).trans h.c2, (cell_set_other _ (by simp)).trans h.c3, by rw [World.frozen?_setCell]; exact h.f0, by rw [World.frozen?_setCell]; exact h.f1, by rw [World.frozen?_setCell]; exact h.f2, by rw [World.frozen?_setCell]; exact h.f3, hnb⟩, hb⟩
theorem RbS.set23 {w : World} {ob N : Nat} {p : Int} {m : ByteArray} {k : Int} {u : Value} (h : RbS w ob N p m k u) (hne : N ≠ ob) (k' : Int) (u' : Value) {W : World} (hW : W = (w.setCell ⟨ob, 2, none⟩ (.int .i64 k')).setCell ⟨ob, 3, none⟩ u') : RbS W ob N p m k' u' ∧ But (fun b => b = ob) w W := by
  have hb : But (fun b => b = ob) w W := by rw [hW]; exact (But.set (S := fun b => b = ob) (a := ⟨ob, 2, none⟩) rfl _).trans (But.set (S := fun b => b = ob) (a := ⟨ob, 3, none⟩) rfl _)
  have hnb := (hb.block N (heapLt h.nb) hne).trans h.nb
  subst hW
  exact ⟨⟨(cell_set_other _ (by simp)).trans ((cell_set_other _ (by simp)).trans h.c0), (cell_set_other _ (by simp)).trans ((cell_set_other _ (by simp)).trans h.c1), (cell_set_other _ (by simp)).trans (cell_set_same _ h.c2), cell_set_same _ ((cell_set_other _ (by simp)).trans h.c3), by rw [World.frozen?_setCell, World.frozen?_setCell]; exact h.f0, by rw [World.frozen?_setCell, World.frozen?_setCell]; exact h.f1, by rw [World.frozen?_setCell, World.frozen?_setCell]; exact h.f2, by rw [World.frozen?_setCell, World.frozen?_setCell]; exact h.f3, hnb⟩, hb⟩
/-- What the reference's reading of a line leaves. -/
def RRulePost (ok : Nat → Prop) (rb : Nat) (v : Value) (ws : List Wrd) (width : Int) (w : World) (e : Ending) (w' : World) : Prop :=
  match Pr.rule ws width with
  | .ok r => ∃ x : RC, e = .returned (.agg #[.int .i64 x.p, .string x.m, .int .i64 x.k, .slice x.a x.n x.c]) ∧ RdC (fun b => w.heap.size ≤ b) w' x r ∧ (∃ j, RRd ok rb j 0 0 0 v ws w') ∧ But (fun b => b = rb) w w'
  | .error (c, j) => (∃ x : RC, e = .returned (.agg #[.int .i64 x.p, .string x.m, .int .i64 x.k, .slice x.a x.n x.c])) ∧ (∃ j', RRd ok rb j' (Pr.wd ws j).l (Pr.wd ws j).c c v ws w') ∧ But (fun b => b = rb) w w'
theorem res_rrule (w : World) (b : Nat) (tmps : Array Value) (p k : Int) (m : ByteArray) (a : Option Addr) (n c : Nat) (h4 : tmps.getD 4 undef = .pointer (some ⟨b, 0, none⟩)) (h0 : w.cell? ⟨b, 0, none⟩ = some (.int .i64 p)) (h1 : w.cell? ⟨b, 1, none⟩ = some (.string m)) (h2 : w.cell? ⟨b, 2, none⟩ = some (.int .i64 k)) (h3 : w.cell? ⟨b, 3, none⟩ = some (.slice a n c)) :
    (results Tryz.f57 tmps).run Tryz.prog w = .ok (.agg #[.int .i64 p, .string m, .int .i64 k, .slice a n c]) w := by
  rw [Array.getD_eq_getD_getElem?] at h4
  simp [results, Tryz.results57, h4, loadVar, asAddr, go_sem, Tryz.isAgg47, Tryz.sizeOf47, h0, h1, h2, h3]
set_option maxHeartbeats 6400000 in
set_option maxRecDepth 20000 in
theorem rrule_rd {ok : Nat → Prop} {rb : Nat} {v : Value} {ws : List Wrd} {w : World} (h : RRd ok rb 0 0 0 0 v ws w) (hok : ∀ b, ok b → b < w.heap.size) (hz : ∀ x ∈ ws, x.t.size ≤ 3000000) (width : Int) :
    Calls Tryz.prog 57 #[.pointer (some ⟨rb, 0, none⟩), .int .i64 width] w (RRulePost ok rb v ws width w) := by
  obtain ⟨W0, hW0⟩ : ∃ W0, W0 = w.alloc (.cells #[.int .i64 0, .string ⟨#[]⟩, .int .i64 0, .slice none 0 0] 47) := ⟨_, rfl⟩
  have hb0 : Below w.heap.size w W0 := by rw [hW0]; exact (Below.refl _ _).alloc (Nat.le_refl _) _
  have hh0 : W0.heap[w.heap.size]? = some (.cells #[.int .i64 0, .string ⟨#[]⟩, .int .i64 0, .slice none 0 0] 47 (0, 0)) := by rw [hW0]; exact heap_alloc_new _ _
  have hs0 : W0.heap.size = w.heap.size + 1 := by rw [hW0]; simp
  have hlt := h.r.lt
  have hfew := h.r.few
  have H0 := Lib.hid (h.below hb0)
  have HB0 := Lib.hid hb0
  have HH0 := Lib.hid hh0
  have HS0 := Lib.hid hs0
  have HW0 := Lib.hid hW0
  have HOk := Lib.hid hok
  have HZ := Lib.hid hz
  have hwz : ∀ j, (Pr.wd ws j).t.size ≤ 3000000 := fun j => by
    unfold Pr.wd
    split
    · exact hz _ (List.getElem_mem _)
    · exact Nat.zero_le _
  obtain ⟨x0, hx0⟩ : ∃ x, Pr.wd ws 0 = x := ⟨_, rfl⟩
  obtain ⟨x1, hx1⟩ : ∃ x, Pr.wd ws 1 = x := ⟨_, rfl⟩
  obtain ⟨x2, hx2⟩ : ∃ x, Pr.wd ws 2 = x := ⟨_, rfl⟩
  have hz1 : x1.t.size ≤ 3000000 := by rw [← hx1]; exact hwz 1
  have hz2 : x2.t.size ≤ 3000000 := by rw [← hx2]; exact hwz 2
  have HX0 := Lib.hid hx0
  have HX1 := Lib.hid hx1
  have HX2 := Lib.hid hx2
  have HNr : Hid (¬ w.heap.size = rb) := by show ¬ _; omega
  have hf := word_field
  obtain ⟨nm, hnm⟩ : ∃ nm, Wd.numE x1.t.data.toList = nm := ⟨_, rfl⟩
  have HNm := Lib.hid hnm
  have HNu : Hid (∀ Wx, Calls Tryz.prog 94 #[.string x1.t] Wx fun e w' => e = .returned (.tuple #[.int .i64 nm.1, .int .i64 nm.2]) ∧ Wx = w') := fun Wx => by
    have h := rNumber_any x1.t Wx (by unfold maxLen; omega)
    unfold numR at h
    rwa [hnm] at h
  clear h hb0 hh0 hs0 hW0 hok hz hwz hx0 hx1 hx2 hnm
  go_enter Tryz.func57, Tryz.ntmps57
  go_upto_region 1 with fail
  rw [← HW0.out]
  clear HW0
  have HMu := Lib.hid (rmust_any H0.out (by omega) ⟨#[114, 117, 108, 101]⟩ 50)
  go_wp2_with fail
  refine HMu.out.mono ?_
  rintro e w1 ⟨rfl, hb1, hm1⟩
  have HB1 := Lib.hid hb1
  have HH1 := Lib.hid ((hb1.block _ (by rw [HS0.out]; omega) HNr.out).trans HH0.out)
  have HS1 : Hid (w.heap.size + 1 ≤ w1.heap.size) := by show _ ≤ _; have := hb1.size; have := HS0.out; omega
  rw [HX0.out] at hm1
  clear hb1 HMu H0
  rcases hm1 with ⟨hq0, hr1⟩ | ⟨hq0, hr1⟩
  · have HQ0 := Lib.hid hq0
    obtain ⟨w2, hw2⟩ : ∃ w2, w2 = w1.alloc (.cells #[.int .i64 0, .string ⟨#[]⟩, .int .i64 0, .slice none 0 0] 47) := ⟨_, rfl⟩
    have hb2 : Below w1.heap.size w1 w2 := by rw [hw2]; exact (Below.refl _ _).alloc (Nat.le_refl _) _
    have hh2 : w2.heap[w1.heap.size]? = some (.cells #[.int .i64 0, .string ⟨#[]⟩, .int .i64 0, .slice none 0 0] 47 (0, 0)) := by rw [hw2]; exact heap_alloc_new _ _
    have hs2 : w2.heap.size = w1.heap.size + 1 := by rw [hw2]; simp
    have hR2 : RbS w2 w1.heap.size w.heap.size 0 ⟨#[]⟩ 0 (.slice none 0 0) := ⟨by simp [World.cell?, hh2], by simp [World.cell?, hh2], by simp [World.cell?, hh2], by simp [World.cell?, hh2], by simp [World.frozen?, hh2], by simp [World.frozen?, hh2], by simp [World.frozen?, hh2], by simp [World.frozen?, hh2], (hb2.block _ (by have := HS1.out; omega)).trans HH1.out⟩
    have HRb2 := Lib.hid hR2
    have HR2 := Lib.hid (hr1.below hb2)
    have HB2 := Lib.hid hb2
    have HS2 := Lib.hid hs2
    have HW2 := Lib.hid hw2
    have HTot : Hid (∀ W, But (fun b => b = rb ∨ w1.heap.size ≤ b) w2 W → But (fun b => b = rb) w W) := fun W hW => But.less (S := fun b => b = rb ∨ w1.heap.size ≤ b) ((((But.below HB0.out).trans (HB1.out.mono fun b hb => .inl hb)).trans (But.below hb2)).trans hW) (fun b hb h => by
      rcases h with h | h
      · exact h
      · have := HS1.out; omega)
    have HNe : Hid (w.heap.size ≠ w1.heap.size ∧ rb ≠ w1.heap.size) := by show _ ∧ _; have := HS1.out; constructor <;> omega
    have d4 := hr1.c4
    clear hq0 hr1 hw2 hb2 hh2 hs2 hR2 HH0
    go_upto_region 5 with fail
    rw [← HW2.out]
    clear HW2 d4
    have HWd := Lib.hid (rword_any HR2.out.r x1 HX1.out)
    go_wp2_with fail
    refine HWd.out.mono ?_
    rintro e w3 ⟨rfl, hb3⟩
    have HR3 := Lib.hid (HR2.out.below hb3)
    have HRb3 := Lib.hid (HRb2.out.below hb3)
    have HB3 : Hid (But (fun b => b = rb ∨ w1.heap.size ≤ b) w2 w3) := But.below hb3
    clear hb3 HWd HR2 HRb2
    go_wp2_with fail
    refine (HNu.out _).mono ?_
    rintro e wb ⟨rfl, rfl⟩
    by_cases hq1 : nm.2 = 0
    case neg =>
      have hqz : ((nm.2 : Int) == 0) = false := by simp; exact hq1
      have hqy : (nm.2 == 0) = false := by simpa using hq1
      have hP : Pr.rule ws width = .error (32, 1) := by unfold Pr.rule; rw [if_neg (by rw [HX0.out]; exact fun e => e HQ0.out), HX1.out, HNm.out, if_pos hq1]
      have HP := Lib.hid hP
      have HFl := Lib.hid (fail_any HR3.out 32 x1 HX1.out)
      clear hq1 hP
      go_wp2_with fail
      refine HFl.out.mono ?_
      rintro e wi ⟨rfl, hri, hbi⟩
      have HRi := Lib.hid hri
      have HRbi := Lib.hid (HRb3.out.but hbi (fun e => HNe.out.2 e.symm) (fun e => HNr.out e))
      have HBi := Lib.hid (HB3.out.trans (hbi.mono fun b hb => .inl hb))
      clear hri hbi
      have hrs := HRbi.out
      have z0 := hrs.c0
      have z1 := hrs.c1
      have z2 := hrs.c2
      have z3 := hrs.c3
      have hnb := hrs.nb
      have t0 : wi.cell? ⟨w.heap.size, 0, none⟩ = some (.int .i64 0) := by simp [World.cell?, hnb]
      have t1 : wi.cell? ⟨w.heap.size, 1, none⟩ = some (.string ⟨#[]⟩) := by simp [World.cell?, hnb]
      have t2 : wi.cell? ⟨w.heap.size, 2, none⟩ = some (.int .i64 0) := by simp [World.cell?, hnb]
      have t3 : wi.cell? ⟨w.heap.size, 3, none⟩ = some (.slice none 0 0) := by simp [World.cell?, hnb]
      have g0 : wi.frozen? ⟨w.heap.size, 0, none⟩ = false := by simp [World.frozen?, hnb]
      have g1 : wi.frozen? ⟨w.heap.size, 1, none⟩ = false := by simp [World.frozen?, hnb]
      have g2 : wi.frozen? ⟨w.heap.size, 2, none⟩ = false := by simp [World.frozen?, hnb]
      have g3 : wi.frozen? ⟨w.heap.size, 3, none⟩ = false := by simp [World.frozen?, hnb]
      clear hrs hnb
      go_wp2_with fail
      refine bodyPost_ret (res_rrule _ w.heap.size _ 0 0 ⟨#[]⟩ none 0 0 rfl ?_ ?_ ?_ ?_) rfl ?_
      · exact cell_setd2 (cell_setd2 (cell_setd2 (cell_set_same _ t0) (by simp)) (by simp)) (by simp)
      · exact cell_setd2 (cell_setd2 (cell_set_same _ (cell_setd2 t1 (by simp))) (by simp)) (by simp)
      · exact cell_setd2 (cell_set_same _ (cell_setd2 (cell_setd2 t2 (by simp)) (by simp))) (by simp)
      · exact cell_set_same _ (cell_setd2 (cell_setd2 (cell_setd2 t3 (by simp)) (by simp)) (by simp))
      have hbs : But (fun b => b = w.heap.size) wi ((((wi.setCell ⟨w.heap.size, 0, none⟩ (.int .i64 0)).setCell ⟨w.heap.size, 1, none⟩ (.string ⟨#[]⟩)).setCell ⟨w.heap.size, 2, none⟩ (.int .i64 0)).setCell ⟨w.heap.size, 3, none⟩ (.slice none 0 0)) := (((But.set (S := fun b => b = w.heap.size) (a := ⟨w.heap.size, 0, none⟩) rfl _).trans (But.set (S := fun b => b = w.heap.size) (a := ⟨w.heap.size, 1, none⟩) rfl _)).trans (But.set (S := fun b => b = w.heap.size) (a := ⟨w.heap.size, 2, none⟩) rfl _)).trans (But.set (S := fun b => b = w.heap.size) (a := ⟨w.heap.size, 3, none⟩) rfl _)
      unfold RRulePost
      rw [HP.out]
      refine ⟨⟨⟨_, _, _, _, _, _⟩, rfl⟩, ⟨1, ?_⟩, but_fresh (HTot.out _ HBi.out) hbs (fun b hb => by omega)⟩
      rw [HX1.out]
      exact HRi.out.but hbs (fun e => HNr.out e.symm) (fun b hb e => by have := HOk.out b hb; omega)
    case pos =>
      have hqz : ((nm.2 : Int) == 0) = true := by rw [hq1]; rfl
      have HQ1 := Lib.hid hq1
      rw [hq1]
      clear hq1
      have hc0 := HRb3.out.c0
      have hf0 := HRb3.out.f0
      obtain ⟨w4, hw4⟩ : ∃ w4, w4 = w3.setCell ⟨w1.heap.size, 0, none⟩ (.int .i64 (nm.1 : Int)) := ⟨_, rfl⟩
      obtain ⟨hrb4, hb4⟩ := HRb3.out.set0 HNe.out.1 (nm.1 : Int) hw4
      have hr4 := HR3.out.but hb4 HNe.out.2 (fun b hb e => by have := HOk.out b hb; have := HS1.out; omega)
      have hst := hr4.step 2
      obtain ⟨w5, hw5⟩ : ∃ w5, w5 = w4.setCell ⟨rb, 1, none⟩ (.int .i64 2) := ⟨_, rfl⟩
      have hst' : RRd ok rb 2 0 0 0 v ws w5 ∧ But (fun b => b = rb) w4 w5 := by rw [hw5]; exact hst
      have k1 := hr4.r.c1
      have k2 := hr4.r.f1
      have HR5 := Lib.hid hst'.1
      have HRb5 := Lib.hid (hrb4.but hst'.2 (fun e => HNe.out.2 e.symm) (fun e => HNr.out e))
      have HB5 : Hid (But (fun b => b = rb ∨ w1.heap.size ≤ b) w2 w5) := (HB3.out.trans (hb4.mono fun b hb => .inr (by omega))).trans (hst'.2.mono fun b hb => .inl hb)
      have HW4 := Lib.hid hw4
      have HW5 := Lib.hid hw5
      clear hw4 hrb4 hb4 hr4 hst hst' hw5 HR3 HRb3 HB3
      go_upto_region 10 with fail
      rw [← HW4.out]
      clear HW4 hc0 hf0
      go_upto_region 11 with fail
      rw [← HW5.out]
      clear HW5 k1 k2
      have HWd := Lib.hid (rword_any HR5.out.r x2 HX2.out)
      go_wp2_with fail
      refine HWd.out.mono ?_
      rintro e w6 ⟨rfl, hb6⟩
      have hrb6 := HRb5.out.below hb6
      have c1 := hrb6.c1
      have f1 := hrb6.f1
      obtain ⟨w7, hw7⟩ : ∃ w7, w7 = w6.setCell ⟨w1.heap.size, 1, none⟩ (.string x2.t) := ⟨_, rfl⟩
      obtain ⟨hrb7, hb7⟩ := hrb6.set1 HNe.out.1 x2.t hw7
      have m1 := hrb7.c1
      have HR7 := Lib.hid ((HR5.out.below hb6).but hb7 HNe.out.2 (fun b hb e => by have := HOk.out b hb; have := HS1.out; omega))
      have HRb7 := Lib.hid hrb7
      have HB7 : Hid (But (fun b => b = rb ∨ w1.heap.size ≤ b) w2 w7) := (HB5.out.trans (But.below hb6)).trans (hb7.mono fun b hb => .inr (by omega))
      have HW7 := Lib.hid hw7
      clear hw7 hb6 hrb6 hrb7 hb7 HWd HR5 HRb5 HB5
      go_upto_region 12 with fail
      rw [← HW7.out]
      clear HW7 c1 f1
      by_cases hq2 : Cb.isCube x2.t.data.toList = true
      case neg =>
        have hq2' : Cb.isCube x2.t.data.toList = false := by simpa using hq2
        have HRg := Lib.hid (Right_false w7 (by unfold maxLen; omega : x2.t.size ≤ maxLen) hq2')
        have hP : Pr.rule ws width = .error (10, 2) := by unfold Pr.rule; rw [if_neg (by rw [HX0.out]; exact fun e => e HQ0.out), HX1.out, HNm.out, if_neg (by exact fun e => e HQ1.out), HX2.out, if_pos hq2']
        have HP := Lib.hid hP
        have HFl := Lib.hid (fail_any HR7.out 10 x2 HX2.out)
        clear hq2 hq2' hP
        go_wp2_with fail
        refine HRg.out.mono ?_
        rintro e w8 ⟨rfl, rfl⟩
        go_wp2_with fail
        refine HFl.out.mono ?_
        rintro e wi ⟨rfl, hri, hbi⟩
        have HRi := Lib.hid hri
        have HRbi := Lib.hid (HRb7.out.but hbi (fun e => HNe.out.2 e.symm) (fun e => HNr.out e))
        have HBi := Lib.hid (HB7.out.trans (hbi.mono fun b hb => .inl hb))
        clear hri hbi m1
        have hrs := HRbi.out
        have z0 := hrs.c0
        have z1 := hrs.c1
        have z2 := hrs.c2
        have z3 := hrs.c3
        have hnb := hrs.nb
        have t0 : wi.cell? ⟨w.heap.size, 0, none⟩ = some (.int .i64 0) := by simp [World.cell?, hnb]
        have t1 : wi.cell? ⟨w.heap.size, 1, none⟩ = some (.string ⟨#[]⟩) := by simp [World.cell?, hnb]
        have t2 : wi.cell? ⟨w.heap.size, 2, none⟩ = some (.int .i64 0) := by simp [World.cell?, hnb]
        have t3 : wi.cell? ⟨w.heap.size, 3, none⟩ = some (.slice none 0 0) := by simp [World.cell?, hnb]
        have g0 : wi.frozen? ⟨w.heap.size, 0, none⟩ = false := by simp [World.frozen?, hnb]
        have g1 : wi.frozen? ⟨w.heap.size, 1, none⟩ = false := by simp [World.frozen?, hnb]
        have g2 : wi.frozen? ⟨w.heap.size, 2, none⟩ = false := by simp [World.frozen?, hnb]
        have g3 : wi.frozen? ⟨w.heap.size, 3, none⟩ = false := by simp [World.frozen?, hnb]
        clear hrs hnb
        go_wp2_with fail
        refine bodyPost_ret (res_rrule _ w.heap.size _ (nm.1 : Int) 0 x2.t none 0 0 rfl ?_ ?_ ?_ ?_) rfl ?_
        · exact cell_setd2 (cell_setd2 (cell_setd2 (cell_set_same _ t0) (by simp)) (by simp)) (by simp)
        · exact cell_setd2 (cell_setd2 (cell_set_same _ (cell_setd2 t1 (by simp))) (by simp)) (by simp)
        · exact cell_setd2 (cell_set_same _ (cell_setd2 (cell_setd2 t2 (by simp)) (by simp))) (by simp)
        · exact cell_set_same _ (cell_setd2 (cell_setd2 (cell_setd2 t3 (by simp)) (by simp)) (by simp))
        have hbs : But (fun b => b = w.heap.size) wi ((((wi.setCell ⟨w.heap.size, 0, none⟩ (.int .i64 (nm.1 : Int))).setCell ⟨w.heap.size, 1, none⟩ (.string x2.t)).setCell ⟨w.heap.size, 2, none⟩ (.int .i64 0)).setCell ⟨w.heap.size, 3, none⟩ (.slice none 0 0)) := (((But.set (S := fun b => b = w.heap.size) (a := ⟨w.heap.size, 0, none⟩) rfl _).trans (But.set (S := fun b => b = w.heap.size) (a := ⟨w.heap.size, 1, none⟩) rfl _)).trans (But.set (S := fun b => b = w.heap.size) (a := ⟨w.heap.size, 2, none⟩) rfl _)).trans (But.set (S := fun b => b = w.heap.size) (a := ⟨w.heap.size, 3, none⟩) rfl _)
        unfold RRulePost
        rw [HP.out]
        refine ⟨⟨⟨_, _, _, _, _, _⟩, rfl⟩, ⟨2, ?_⟩, but_fresh (HTot.out _ HBi.out) hbs (fun b hb => by omega)⟩
        rw [HX2.out]
        exact HRi.out.but hbs (fun e => HNr.out e.symm) (fun b hb e => by have := HOk.out b hb; omega)
      case pos =>
        have HQ2 := Lib.hid hq2
        have HRg := Lib.hid (Right_true w7 (by unfold maxLen; omega : x2.t.size ≤ maxLen) hq2)
        clear hq2
        go_wp2_with fail
        refine HRg.out.mono ?_
        rintro e w8 ⟨rfl, rfl⟩
        by_cases hq3 : (x2.t.size : Int) = width
        case neg =>
          have hqw : ((x2.t.size : Int) == width) = false := by simpa using hq3
          have hP : Pr.rule ws width = .error (11, 2) := by unfold Pr.rule; rw [if_neg (by rw [HX0.out]; exact fun e => e HQ0.out), HX1.out, HNm.out, if_neg (by exact fun e => e HQ1.out), HX2.out, if_neg (by rw [HQ2.out]; simp), if_pos hq3]
          have HP := Lib.hid hP
          have HFl := Lib.hid (fail_any HR7.out 11 x2 HX2.out)
          clear hq3 hP
          go_wp2_with fail
          refine HFl.out.mono ?_
          rintro e wi ⟨rfl, hri, hbi⟩
          have HRi := Lib.hid hri
          have HRbi := Lib.hid (HRb7.out.but hbi (fun e => HNe.out.2 e.symm) (fun e => HNr.out e))
          have HBi := Lib.hid (HB7.out.trans (hbi.mono fun b hb => .inl hb))
          clear hri hbi m1
          have hrs := HRbi.out
          have z0 := hrs.c0
          have z1 := hrs.c1
          have z2 := hrs.c2
          have z3 := hrs.c3
          have hnb := hrs.nb
          have t0 : wi.cell? ⟨w.heap.size, 0, none⟩ = some (.int .i64 0) := by simp [World.cell?, hnb]
          have t1 : wi.cell? ⟨w.heap.size, 1, none⟩ = some (.string ⟨#[]⟩) := by simp [World.cell?, hnb]
          have t2 : wi.cell? ⟨w.heap.size, 2, none⟩ = some (.int .i64 0) := by simp [World.cell?, hnb]
          have t3 : wi.cell? ⟨w.heap.size, 3, none⟩ = some (.slice none 0 0) := by simp [World.cell?, hnb]
          have g0 : wi.frozen? ⟨w.heap.size, 0, none⟩ = false := by simp [World.frozen?, hnb]
          have g1 : wi.frozen? ⟨w.heap.size, 1, none⟩ = false := by simp [World.frozen?, hnb]
          have g2 : wi.frozen? ⟨w.heap.size, 2, none⟩ = false := by simp [World.frozen?, hnb]
          have g3 : wi.frozen? ⟨w.heap.size, 3, none⟩ = false := by simp [World.frozen?, hnb]
          clear hrs hnb
          go_wp2_with fail
          refine bodyPost_ret (res_rrule _ w.heap.size _ (nm.1 : Int) 0 x2.t none 0 0 rfl ?_ ?_ ?_ ?_) rfl ?_
          · exact cell_setd2 (cell_setd2 (cell_setd2 (cell_set_same _ t0) (by simp)) (by simp)) (by simp)
          · exact cell_setd2 (cell_setd2 (cell_set_same _ (cell_setd2 t1 (by simp))) (by simp)) (by simp)
          · exact cell_setd2 (cell_set_same _ (cell_setd2 (cell_setd2 t2 (by simp)) (by simp))) (by simp)
          · exact cell_set_same _ (cell_setd2 (cell_setd2 (cell_setd2 t3 (by simp)) (by simp)) (by simp))
          have hbs : But (fun b => b = w.heap.size) wi ((((wi.setCell ⟨w.heap.size, 0, none⟩ (.int .i64 (nm.1 : Int))).setCell ⟨w.heap.size, 1, none⟩ (.string x2.t)).setCell ⟨w.heap.size, 2, none⟩ (.int .i64 0)).setCell ⟨w.heap.size, 3, none⟩ (.slice none 0 0)) := (((But.set (S := fun b => b = w.heap.size) (a := ⟨w.heap.size, 0, none⟩) rfl _).trans (But.set (S := fun b => b = w.heap.size) (a := ⟨w.heap.size, 1, none⟩) rfl _)).trans (But.set (S := fun b => b = w.heap.size) (a := ⟨w.heap.size, 2, none⟩) rfl _)).trans (But.set (S := fun b => b = w.heap.size) (a := ⟨w.heap.size, 3, none⟩) rfl _)
          unfold RRulePost
          rw [HP.out]
          refine ⟨⟨⟨_, _, _, _, _, _⟩, rfl⟩, ⟨2, ?_⟩, but_fresh (HTot.out _ HBi.out) hbs (fun b hb => by omega)⟩
          rw [HX2.out]
          exact HRi.out.but hbs (fun e => HNr.out e.symm) (fun b hb e => by have := HOk.out b hb; omega)
        case pos =>
          have hqw : ((x2.t.size : Int) == width) = true := by simpa using hq3
          have HQ3 := Lib.hid hq3
          clear hq3
          have hst := HR7.out.step 3
          obtain ⟨w8, hw8⟩ : ∃ w8, w8 = w7.setCell ⟨rb, 1, none⟩ (.int .i64 3) := ⟨_, rfl⟩
          have hst' : RRd ok rb 3 0 0 0 v ws w8 ∧ But (fun b => b = rb) w7 w8 := by rw [hw8]; exact hst
          have k1 := HR7.out.r.c1
          have k2 := HR7.out.r.f1
          have HR8 := Lib.hid hst'.1
          have HRb8 := Lib.hid (HRb7.out.but hst'.2 (fun e => HNe.out.2 e.symm) (fun e => HNr.out e))
          have HB8 : Hid (But (fun b => b = rb ∨ w1.heap.size ≤ b) w2 w8) := HB7.out.trans (hst'.2.mono fun b hb => .inl hb)
          have hs8 : w1.heap.size + 1 ≤ w8.heap.size := by have := HB8.out.size; have := HS2.out; omega
          have HS8 := Lib.hid hs8
          have HAc := Lib.hid (ract_any hst'.1 (fun b hb => by have := HOk.out b hb; have := HS1.out; omega) (by omega) HZ.out)
          have HW8 := Lib.hid hw8
          have hrl : Pr.rule ws width = match Pr.act ws 3 with
              | .error e => .error e
              | .ok (k, P, j) => if j < ws.length then .error (50, j) else .ok ⟨nm.1, x2.t, k, P⟩ := by
            unfold Pr.rule
            rw [if_neg (by rw [HX0.out]; exact fun e => e HQ0.out), HX1.out, HNm.out, if_neg (by exact fun e => e HQ1.out), HX2.out, if_neg (by rw [HQ2.out]; simp), if_neg (by exact fun e => e HQ3.out)]
            cases Pr.act ws 3 <;> rfl
          have HRl := Lib.hid hrl
          clear hst hst' hw8 hs8 hrl HR7 HRb7 HB7
          go_upto_region 19 with fail
          rw [← HW8.out]
          clear HW8 k1 k2 m1
          go_wp2_with fail
          refine HAc.out.mono ?_
          intro e w9 hpost
          unfold RActPost at hpost
          cases hA : Pr.act ws 3 with
          | error cj =>
            obtain ⟨c, j⟩ := cj
            rw [hA] at hpost
            obtain ⟨⟨k, a, n, cc, rfl⟩, ⟨j', hr9⟩, hb9⟩ := hpost
            have hce : c ≠ 0 := Pr.act_err hA
            have hcz : (c == 0) = false := by simpa using hce
            have hP : Pr.rule ws width = .error (c, j) := by rw [HRl.out, hA]
            have HP := Lib.hid hP
            have hrb9 := HRb8.out.but hb9 (fun e => HNe.out.2 e.symm) (fun e => HNr.out e)
            have c2 := hrb9.c2
            have c3 := hrb9.c3
            have f2 := hrb9.f2
            have f3 := hrb9.f3
            obtain ⟨wi, hwi⟩ : ∃ wi, wi = (w9.setCell ⟨w1.heap.size, 2, none⟩ (.int .i64 k)).setCell ⟨w1.heap.size, 3, none⟩ (.slice a n cc) := ⟨_, rfl⟩
            obtain ⟨hrbi, hbi⟩ := hrb9.set23 HNe.out.1 k (.slice a n cc) hwi
            have hri := hr9.but hbi HNe.out.2 (fun b hb e => by have := HOk.out b hb; have := HS1.out; omega)
            have d4 := hri.c4
            have HRi := Lib.hid hri
            have HRbi := Lib.hid hrbi
            have HBi : Hid (But (fun b => b = rb ∨ w1.heap.size ≤ b) w2 wi) := (HB8.out.trans (hb9.mono fun b hb => .inl hb)).trans (hbi.mono fun b hb => .inr (by omega))
            have HWi := Lib.hid hwi
            clear hwi hrb9 hrbi hbi hri hr9 hb9 hA hP hce HAc HR8 HRb8 HB8
            go_upto_region 20 with fail
            rw [← HWi.out]
            clear HWi c2 c3 f2 f3
            go_quiet (fail)
            go_upto_region 22 with fail
            obtain ⟨wq, hwq⟩ : ∃ wq, wq = wi.drewN nq := ⟨_, rfl⟩
            have hbq : Below wi.heap.size wi wq := by rw [hwq]; exact below_dN (Below.refl _ _) nq
            rw [← hwq]
            have HRq := Lib.hid (HRi.out.below hbq)
            have HRbq := Lib.hid (HRbi.out.below hbq)
            have HBq := Lib.hid (HBi.out.trans (But.below hbq))
            clear hwq hbq d4
            have hrs := HRbq.out
            have z0 := hrs.c0
            have z1 := hrs.c1
            have z2 := hrs.c2
            have z3 := hrs.c3
            have hnb := hrs.nb
            have t0 : wq.cell? ⟨w.heap.size, 0, none⟩ = some (.int .i64 0) := by simp [World.cell?, hnb]
            have t1 : wq.cell? ⟨w.heap.size, 1, none⟩ = some (.string ⟨#[]⟩) := by simp [World.cell?, hnb]
            have t2 : wq.cell? ⟨w.heap.size, 2, none⟩ = some (.int .i64 0) := by simp [World.cell?, hnb]
            have t3 : wq.cell? ⟨w.heap.size, 3, none⟩ = some (.slice none 0 0) := by simp [World.cell?, hnb]
            have g0 : wq.frozen? ⟨w.heap.size, 0, none⟩ = false := by simp [World.frozen?, hnb]
            have g1 : wq.frozen? ⟨w.heap.size, 1, none⟩ = false := by simp [World.frozen?, hnb]
            have g2 : wq.frozen? ⟨w.heap.size, 2, none⟩ = false := by simp [World.frozen?, hnb]
            have g3 : wq.frozen? ⟨w.heap.size, 3, none⟩ = false := by simp [World.frozen?, hnb]
            clear hrs hnb
            go_wp2_with fail
            refine bodyPost_ret (res_rrule _ w.heap.size _ (nm.1 : Int) k x2.t a n cc rfl ?_ ?_ ?_ ?_) rfl ?_
            · exact cell_setd2 (cell_setd2 (cell_setd2 (cell_set_same _ t0) (by simp)) (by simp)) (by simp)
            · exact cell_setd2 (cell_setd2 (cell_set_same _ (cell_setd2 t1 (by simp))) (by simp)) (by simp)
            · exact cell_setd2 (cell_set_same _ (cell_setd2 (cell_setd2 t2 (by simp)) (by simp))) (by simp)
            · exact cell_set_same _ (cell_setd2 (cell_setd2 (cell_setd2 t3 (by simp)) (by simp)) (by simp))
            have hbs : But (fun b => b = w.heap.size) wq ((((wq.setCell ⟨w.heap.size, 0, none⟩ (.int .i64 (nm.1 : Int))).setCell ⟨w.heap.size, 1, none⟩ (.string x2.t)).setCell ⟨w.heap.size, 2, none⟩ (.int .i64 k)).setCell ⟨w.heap.size, 3, none⟩ (.slice a n cc)) := (((But.set (S := fun b => b = w.heap.size) (a := ⟨w.heap.size, 0, none⟩) rfl _).trans (But.set (S := fun b => b = w.heap.size) (a := ⟨w.heap.size, 1, none⟩) rfl _)).trans (But.set (S := fun b => b = w.heap.size) (a := ⟨w.heap.size, 2, none⟩) rfl _)).trans (But.set (S := fun b => b = w.heap.size) (a := ⟨w.heap.size, 3, none⟩) rfl _)
            unfold RRulePost
            rw [HP.out]
            refine ⟨⟨⟨_, _, _, _, _, _⟩, rfl⟩, ⟨j', ?_⟩, but_fresh (HTot.out _ HBq.out) hbs (fun b hb => by omega)⟩
            exact HRq.out.but hbs (fun e => HNr.out e.symm) (fun b hb e => by have := HOk.out b hb; omega)
          | ok kPj =>
            obtain ⟨k, P, j⟩ := kPj
            rw [hA] at hpost
            obtain ⟨a, n, cc, rfl, hro, hr9, hb9⟩ := hpost
            have hsm := Pr.act_small hA
            have hrb9 := HRb8.out.but hb9 (fun e => HNe.out.2 e.symm) (fun e => HNr.out e)
            have c2 := hrb9.c2
            have c3 := hrb9.c3
            have f2 := hrb9.f2
            have f3 := hrb9.f3
            obtain ⟨wi, hwi⟩ : ∃ wi, wi = (w9.setCell ⟨w1.heap.size, 2, none⟩ (.int .i64 k)).setCell ⟨w1.heap.size, 3, none⟩ (.slice a n cc) := ⟨_, rfl⟩
            obtain ⟨hrbi, hbi⟩ := hrb9.set23 HNe.out.1 k (.slice a n cc) hwi
            have hri := hr9.but hbi HNe.out.2 (fun b hb e => by have := HOk.out b hb; have := HS1.out; omega)
            have hroi := hro.but hbi (fun b hb e => by have := HS8.out; omega)
            have d4 := hri.c4
            have d1 := hri.r.c1
            have d0 := hri.r.c0
            obtain ⟨adv, capv, hvv, _, _, _⟩ := id hri.r.rd
            rw [hvv] at d0
            obtain ⟨nw, hnw⟩ : ∃ nw, ws.length = nw := ⟨_, rfl⟩
            rw [hnw] at d0
            have HNw := Lib.hid hnw
            have HRi := Lib.hid hri
            have HRbi := Lib.hid hrbi
            have HRoi := Lib.hid hroi
            have HBi : Hid (But (fun b => b = rb ∨ w1.heap.size ≤ b) w2 wi) := (HB8.out.trans (hb9.mono fun b hb => .inl hb)).trans (hbi.mono fun b hb => .inr (by omega))
            have HWi := Lib.hid hwi
            have HA := Lib.hid hA
            clear hwi hrb9 hrbi hbi hri hr9 hb9 hA HAc HR8 HRb8 HB8 hro hroi hvv hnw
            go_upto_region 20 with fail
            rw [← HWi.out]
            clear HWi c2 c3 f2 f3
            by_cases hj : j < nw
            · have hjz : (j : Int) < (nw : Int) := by omega
              have hP : Pr.rule ws width = .error (50, j) := by rw [HRl.out, HA.out]; show (if j < ws.length then _ else _) = _; rw [if_pos (by rw [HNw.out]; exact hj)]
              have HP := Lib.hid hP
              clear hP
              go_quiet (fail)
              go_upto_region 21 with fail
              obtain ⟨wq, hwq⟩ : ∃ wq, wq = wi.drewN nq := ⟨_, rfl⟩
              have hbq : Below wi.heap.size wi wq := by rw [hwq]; exact below_dN (Below.refl _ _) nq
              rw [← hwq]
              have HRq := Lib.hid (HRi.out.below hbq)
              have HRbq := Lib.hid (HRbi.out.below hbq)
              have HBq := Lib.hid (HBi.out.trans (But.below hbq))
              have HFl := Lib.hid (fail_any (HRi.out.below hbq) 50 (Pr.wd ws j) rfl)
              clear hwq hbq d4 d1 d0
              go_wp2_with fail
              refine HFl.out.mono ?_
              rintro e wz ⟨rfl, hrz, hbz⟩
              have HRz := Lib.hid hrz
              have HRbz := Lib.hid (HRbq.out.but hbz (fun e => HNe.out.2 e.symm) (fun e => HNr.out e))
              have HBz := Lib.hid (HBq.out.trans (hbz.mono fun b hb => .inl hb))
              clear hrz hbz
              have hrs := HRbz.out
              have z0 := hrs.c0
              have z1 := hrs.c1
              have z2 := hrs.c2
              have z3 := hrs.c3
              have hnb := hrs.nb
              have t0 : wz.cell? ⟨w.heap.size, 0, none⟩ = some (.int .i64 0) := by simp [World.cell?, hnb]
              have t1 : wz.cell? ⟨w.heap.size, 1, none⟩ = some (.string ⟨#[]⟩) := by simp [World.cell?, hnb]
              have t2 : wz.cell? ⟨w.heap.size, 2, none⟩ = some (.int .i64 0) := by simp [World.cell?, hnb]
              have t3 : wz.cell? ⟨w.heap.size, 3, none⟩ = some (.slice none 0 0) := by simp [World.cell?, hnb]
              have g0 : wz.frozen? ⟨w.heap.size, 0, none⟩ = false := by simp [World.frozen?, hnb]
              have g1 : wz.frozen? ⟨w.heap.size, 1, none⟩ = false := by simp [World.frozen?, hnb]
              have g2 : wz.frozen? ⟨w.heap.size, 2, none⟩ = false := by simp [World.frozen?, hnb]
              have g3 : wz.frozen? ⟨w.heap.size, 3, none⟩ = false := by simp [World.frozen?, hnb]
              clear hrs hnb
              go_wp2_with fail
              refine bodyPost_ret (res_rrule _ w.heap.size _ (nm.1 : Int) k x2.t a n cc rfl ?_ ?_ ?_ ?_) rfl ?_
              · exact cell_setd2 (cell_setd2 (cell_setd2 (cell_set_same _ t0) (by simp)) (by simp)) (by simp)
              · exact cell_setd2 (cell_setd2 (cell_set_same _ (cell_setd2 t1 (by simp))) (by simp)) (by simp)
              · exact cell_setd2 (cell_set_same _ (cell_setd2 (cell_setd2 t2 (by simp)) (by simp))) (by simp)
              · exact cell_set_same _ (cell_setd2 (cell_setd2 (cell_setd2 t3 (by simp)) (by simp)) (by simp))
              have hbs : But (fun b => b = w.heap.size) wz ((((wz.setCell ⟨w.heap.size, 0, none⟩ (.int .i64 (nm.1 : Int))).setCell ⟨w.heap.size, 1, none⟩ (.string x2.t)).setCell ⟨w.heap.size, 2, none⟩ (.int .i64 k)).setCell ⟨w.heap.size, 3, none⟩ (.slice a n cc)) := (((But.set (S := fun b => b = w.heap.size) (a := ⟨w.heap.size, 0, none⟩) rfl _).trans (But.set (S := fun b => b = w.heap.size) (a := ⟨w.heap.size, 1, none⟩) rfl _)).trans (But.set (S := fun b => b = w.heap.size) (a := ⟨w.heap.size, 2, none⟩) rfl _)).trans (But.set (S := fun b => b = w.heap.size) (a := ⟨w.heap.size, 3, none⟩) rfl _)
              unfold RRulePost
              rw [HP.out]
              refine ⟨⟨⟨_, _, _, _, _, _⟩, rfl⟩, ⟨j, ?_⟩, but_fresh (HTot.out _ HBz.out) hbs (fun b hb => by omega)⟩
              exact HRz.out.but hbs (fun e => HNr.out e.symm) (fun b hb e => by have := HOk.out b hb; omega)
            · have hjz : decide ((j : Int) < (nw : Int)) = false := by simp; omega
              have hP : Pr.rule ws width = .ok ⟨nm.1, x2.t, k, P⟩ := by rw [HRl.out, HA.out]; show (if j < ws.length then _ else _) = _; rw [if_neg (by rw [HNw.out]; exact hj)]
              have HP := Lib.hid hP
              clear hP
              go_quiet (fail)
              go_upto_region 22 with fail
              obtain ⟨wq, hwq⟩ : ∃ wq, wq = wi.drewN nq := ⟨_, rfl⟩
              have hbq : Below wi.heap.size wi wq := by rw [hwq]; exact below_dN (Below.refl _ _) nq
              rw [← hwq]
              have HRq := Lib.hid (HRi.out.below hbq)
              have HRbq := Lib.hid (HRbi.out.below hbq)
              have HRoq := Lib.hid (HRoi.out.below hbq)
              have HBq := Lib.hid (HBi.out.trans (But.below hbq))
              clear hwq hbq d4 d1 d0
              have hrs := HRbq.out
              have z0 := hrs.c0
              have z1 := hrs.c1
              have z2 := hrs.c2
              have z3 := hrs.c3
              have hnb := hrs.nb
              have t0 : wq.cell? ⟨w.heap.size, 0, none⟩ = some (.int .i64 0) := by simp [World.cell?, hnb]
              have t1 : wq.cell? ⟨w.heap.size, 1, none⟩ = some (.string ⟨#[]⟩) := by simp [World.cell?, hnb]
              have t2 : wq.cell? ⟨w.heap.size, 2, none⟩ = some (.int .i64 0) := by simp [World.cell?, hnb]
              have t3 : wq.cell? ⟨w.heap.size, 3, none⟩ = some (.slice none 0 0) := by simp [World.cell?, hnb]
              have g0 : wq.frozen? ⟨w.heap.size, 0, none⟩ = false := by simp [World.frozen?, hnb]
              have g1 : wq.frozen? ⟨w.heap.size, 1, none⟩ = false := by simp [World.frozen?, hnb]
              have g2 : wq.frozen? ⟨w.heap.size, 2, none⟩ = false := by simp [World.frozen?, hnb]
              have g3 : wq.frozen? ⟨w.heap.size, 3, none⟩ = false := by simp [World.frozen?, hnb]
              clear hrs hnb
              go_wp2_with fail
              refine bodyPost_ret (res_rrule _ w.heap.size _ (nm.1 : Int) k x2.t a n cc rfl ?_ ?_ ?_ ?_) rfl ?_
              · exact cell_setd2 (cell_setd2 (cell_setd2 (cell_set_same _ t0) (by simp)) (by simp)) (by simp)
              · exact cell_setd2 (cell_setd2 (cell_set_same _ (cell_setd2 t1 (by simp))) (by simp)) (by simp)
              · exact cell_setd2 (cell_set_same _ (cell_setd2 (cell_setd2 t2 (by simp)) (by simp))) (by simp)
              · exact cell_set_same _ (cell_setd2 (cell_setd2 (cell_setd2 t3 (by simp)) (by simp)) (by simp))
              have hbs : But (fun b => b = w.heap.size) wq ((((wq.setCell ⟨w.heap.size, 0, none⟩ (.int .i64 (nm.1 : Int))).setCell ⟨w.heap.size, 1, none⟩ (.string x2.t)).setCell ⟨w.heap.size, 2, none⟩ (.int .i64 k)).setCell ⟨w.heap.size, 3, none⟩ (.slice a n cc)) := (((But.set (S := fun b => b = w.heap.size) (a := ⟨w.heap.size, 0, none⟩) rfl _).trans (But.set (S := fun b => b = w.heap.size) (a := ⟨w.heap.size, 1, none⟩) rfl _)).trans (But.set (S := fun b => b = w.heap.size) (a := ⟨w.heap.size, 2, none⟩) rfl _)).trans (But.set (S := fun b => b = w.heap.size) (a := ⟨w.heap.size, 3, none⟩) rfl _)
              unfold RRulePost
              rw [HP.out]
              refine ⟨⟨nm.1, x2.t, k, a, n, cc⟩, rfl, ⟨rfl, rfl, rfl, ?_, ⟨by show x2.t.size ≤ _; omega, by show P.length * 16 ≤ _; omega, fun y hy => by have := hsm.2.1 y hy; omega⟩⟩, ⟨j, ?_⟩, but_fresh (HTot.out _ HBq.out) hbs (fun b hb => by omega)⟩
              · exact (HRoq.out.but hbs (fun b hb e => by have := HS8.out; have := HS1.out; omega)).mono (fun b hb => by have := HS8.out; have := HS1.out; omega)
              · exact HRq.out.but hbs (fun e => HNr.out e.symm) (fun b hb e => by have := HOk.out b hb; omega)
  · have hP : Pr.rule ws width = .error (50, 0) := by unfold Pr.rule; rw [if_pos (by rw [HX0.out]; exact hq0)]
    have HP := Lib.hid hP
    have HR1 := Lib.hid hr1
    have d4 := hr1.c4
    have hnb := HH1.out
    have t0 : w1.cell? ⟨w.heap.size, 0, none⟩ = some (.int .i64 0) := by simp [World.cell?, hnb]
    have t1 : w1.cell? ⟨w.heap.size, 1, none⟩ = some (.string ⟨#[]⟩) := by simp [World.cell?, hnb]
    have t2 : w1.cell? ⟨w.heap.size, 2, none⟩ = some (.int .i64 0) := by simp [World.cell?, hnb]
    have t3 : w1.cell? ⟨w.heap.size, 3, none⟩ = some (.slice none 0 0) := by simp [World.cell?, hnb]
    have g0 : w1.frozen? ⟨w.heap.size, 0, none⟩ = false := by simp [World.frozen?, hnb]
    have g1 : w1.frozen? ⟨w.heap.size, 1, none⟩ = false := by simp [World.frozen?, hnb]
    have g2 : w1.frozen? ⟨w.heap.size, 2, none⟩ = false := by simp [World.frozen?, hnb]
    have g3 : w1.frozen? ⟨w.heap.size, 3, none⟩ = false := by simp [World.frozen?, hnb]
    clear hP hq0 hr1 hnb
    go_wp2_with fail
    refine bodyPost_ret (res_rrule _ w.heap.size _ 0 0 ⟨#[]⟩ none 0 0 rfl ?_ ?_ ?_ ?_) rfl ?_
    · exact cell_setd2 (cell_setd2 (cell_setd2 (cell_set_same _ t0) (by simp)) (by simp)) (by simp)
    · exact cell_setd2 (cell_setd2 (cell_set_same _ (cell_setd2 t1 (by simp))) (by simp)) (by simp)
    · exact cell_setd2 (cell_set_same _ (cell_setd2 (cell_setd2 t2 (by simp)) (by simp))) (by simp)
    · exact cell_set_same _ (cell_setd2 (cell_setd2 (cell_setd2 t3 (by simp)) (by simp)) (by simp))
    have hbs : But (fun b => b = w.heap.size) w1 ((((w1.setCell ⟨w.heap.size, 0, none⟩ (.int .i64 0)).setCell ⟨w.heap.size, 1, none⟩ (.string ⟨#[]⟩)).setCell ⟨w.heap.size, 2, none⟩ (.int .i64 0)).setCell ⟨w.heap.size, 3, none⟩ (.slice none 0 0)) := (((But.set (S := fun b => b = w.heap.size) (a := ⟨w.heap.size, 0, none⟩) rfl _).trans (But.set (S := fun b => b = w.heap.size) (a := ⟨w.heap.size, 1, none⟩) rfl _)).trans (But.set (S := fun b => b = w.heap.size) (a := ⟨w.heap.size, 2, none⟩) rfl _)).trans (But.set (S := fun b => b = w.heap.size) (a := ⟨w.heap.size, 3, none⟩) rfl _)
    unfold RRulePost
    rw [HP.out]
    refine ⟨⟨⟨_, _, _, _, _, _⟩, rfl⟩, ⟨0, ?_⟩, but_fresh ((But.below HB0.out).trans HB1.out) hbs (fun b hb => by omega)⟩
    rw [HX0.out]
    exact HR1.out.but hbs (fun e => HNr.out e.symm) (fun b hb e => by have := HOk.out b hb; omega)
theorem LnO.mono {ok ok' : Nat → Prop} {w : World} {ad : Option Addr} {acc : List (List Wrd)} (h : LnO ok w ad acc) (hk : ∀ b, ok b → ok' b) : LnO ok' w ad acc := fun i hi => by
  obtain ⟨b, off, adw, capw, e, h1, hl, hc, hr⟩ := h i hi
  exact ⟨b, off, adw, capw, e, hk b h1, hl, hc, hr.mono fun b _ h => hk b h⟩
theorem rlines_lno (s : ByteArray) (w : World) (hs : s.size ≤ 1048576) (acc : List (List Wrd)) (h : Wd.lines s.data.toList = .ok acc) :
    Calls Tryz.prog 56 #[.string s] w fun e w' => ∃ ad cap, e = .returned (.tuple #[.slice ad acc.length cap, .int .i64 0, .int .i64 0, .int .i64 0]) ∧ LnO (fun b => b < w'.heap.size) w' ad acc ∧ Below w.heap.size w w' :=
  (rlines_any s w hs).mono fun e w' hp => by
    unfold LinesPost at hp
    rw [h] at hp
    obtain ⟨v, rfl, h1, h2⟩ := hp
    obtain ⟨ad, cap, rfl, h3⟩ := rdsLn_ok h1
    exact ⟨ad, cap, rfl, h3.mono fun b hb => hb.2, h2⟩
/-- Between two lines: where the lines lie, and the rules so far. -/
structure RPSt (base : Nat) (acc : List (List Wrd)) (ad0 : Option Addr) (v : Value) (xs : List RC) (L : List Rl) (W : World) : Prop where
  ln : LnO (fun b => b < base) W ad0 acc
  own : OwnR (okFP base v) W base v xs L
  lo : base ≤ W.heap.size
theorem RPSt.below {base : Nat} {acc : List (List Wrd)} {ad0 : Option Addr} {v : Value} {xs : List RC} {L : List Rl} {W W' : World} (h : RPSt base acc ad0 v xs L W) (hb : Below W.heap.size W W') : RPSt base acc ad0 v xs L W' :=
  ⟨h.ln.but (S := fun _ => False) (But.below hb) (fun _ _ h => h), h.own.below hb, Nat.le_trans h.lo hb.size⟩
theorem RPSt.grown {base : Nat} {acc : List (List Wrd)} {ad0 : Option Addr} {v v' : Value} {xs xs' : List RC} {L L' : List Rl} {W W' : World} (h : RPSt base acc ad0 v xs L W) (hg : W.grownBy W' v.ownBlock) (ho : OwnR (okFP base v') W' base v' xs' L') : RPSt base acc ad0 v' xs' L' W' := by
  have hb : But (fun b => v.ownBlock = some b) W W' := ⟨hg.os, hg.tape, hg.output, hg.size, fun k hk hn => hg.block k hk (fun e => hn e.symm)⟩
  exact ⟨h.ln.but hb fun b hk e => by have := (own_ge h.own.row b e).1; omega, ho, Nat.le_trans h.lo hb.size⟩
theorem Pr.rule_err {ws : List Wrd} {width : Int} {c : Int} {j : Nat} (h : Pr.rule ws width = .error (c, j)) : c ≠ 0 := by
  unfold Pr.rule at h
  split at h
  · injection h with h; injection h with h _; omega
  · split at h
    · injection h with h; injection h with h _; omega
    · split at h
      · injection h with h; injection h with h _; omega
      · split at h
        · injection h with h; injection h with h _; omega
        · split at h
          · rename_i e hA
            injection h with h
            subst h
            exact Pr.act_err hA
          · split at h
            · injection h with h; injection h with h _; omega
            · cases h
theorem rparse_width (s : ByteArray) (width : Int) (w : World) (hw : width < 1 ∨ 128 < width) : Calls Tryz.prog 30 #[.string s, .int .i64 width] w (ParsePost s width w) := by
  have hP : Pr.parse s width = .error (1, 0, 0) := by unfold Pr.parse; rw [if_pos hw]
  have HP := Lib.hid hP
  clear hP
  have hcs : width < 1 ∨ (decide (width < 1) = false ∧ 128 < width) := by
    by_cases h : width < 1
    · exact .inl h
    · exact .inr ⟨by simpa using h, by omega⟩
  clear hw
  rcases hcs with h1 | ⟨h1, h2⟩
  all_goals
    go_enter Tryz.func30, Tryz.ntmps30
    go_wp2_with fail
    refine bodyPost_ret (v := .tuple #[.slice none 0 0, .int .i64 0, .int .i64 0, .int .i64 1]) (by simp [results, go_sem]) rfl ?_
    show ParsePost _ _ _ _ _
    unfold ParsePost
    rw [HP.out]
    exact ⟨rfl, Below.refl _ _⟩
set_option maxHeartbeats 1600000 in
set_option maxRecDepth 20000 in
theorem rparse_err (s : ByteArray) (width : Int) (w : World) (hs : s.size ≤ 1048576) (h1 : 1 ≤ width) (h2 : width ≤ 128) (num p : Nat) (hl : Wd.lines s.data.toList = .error (num, p)) : Calls Tryz.prog 30 #[.string s, .int .i64 width] w (ParsePost s width w) := by
  have hP : Pr.parse s width = .error (30, num, p + 1) := by unfold Pr.parse; rw [if_neg (by omega), hl]
  have HP := Lib.hid hP
  have HL := Lib.hid (fun w => rlines_err s w hs num p hl)
  have hw1 : decide (width < 1) = false := by simp; omega
  have hw2 : decide (128 < width) = false := by simp; omega
  clear hP hl hs h1 h2
  go_enter Tryz.func30, Tryz.ntmps30
  go_wp2_with fail
  refine (HL.out _).mono ?_
  rintro e w1 ⟨rfl, hb1⟩
  have HB1 := Lib.hid hb1
  clear hb1
  go_wp2_with fail
  refine bodyPost_ret (v := .tuple #[.slice none 0 0, .int .i64 num, .int .i64 ((p : Int) + 1), .int .i64 30]) (by simp [results, go_sem]) rfl ?_
  show ParsePost _ _ _ _ _
  unfold ParsePost
  rw [HP.out]
  exact ⟨rfl, HB1.out⟩
set_option maxHeartbeats 6400000 in
set_option maxRecDepth 20000 in
theorem rparse_ok (s : ByteArray) (width : Int) (w : World) (hs : s.size ≤ 1048576) (h1 : 1 ≤ width) (h2 : width ≤ 128) (acc : List (List Wrd)) (hl : Wd.lines s.data.toList = .ok acc) : Calls Tryz.prog 30 #[.string s, .int .i64 width] w (ParsePost s width w) := by
  have hP : Pr.parse s width = Pr.parseF width acc [] := by unfold Pr.parse; rw [if_neg (by omega), hl]
  have HP := Lib.hid hP
  have HL := Lib.hid (fun w => rlines_lno s w hs acc hl)
  have hsm := Wd.lines_small hl
  rw [← Lib.size_eq] at hsm
  have HSm := Lib.hid hsm
  have HSz := Lib.hid hs
  have hn6 : acc.length ≤ 1048577 := by have := hsm.1; omega
  obtain ⟨n, hn⟩ : ∃ n, acc.length = n := ⟨_, rfl⟩
  rw [hn] at HL hn6
  have HN := Lib.hid hn
  have hw1 : decide (width < 1) = false := by simp; omega
  have hw2 : decide (128 < width) = false := by simp; omega
  clear hP hl hs h1 h2 hsm hn
  go_enter Tryz.func30, Tryz.ntmps30
  go_wp2_with fail
  refine (HL.out _).mono ?_
  rintro e w1 ⟨ad0, cap0, rfl, hrl, hb1⟩
  have HB1 := Lib.hid hb1
  have HP1 : Hid (RPSt w1.heap.size acc ad0 (.slice none 0 0) [] [] w1) := ⟨hrl, ownR_nil _ _ _, Nat.le_refl _⟩
  obtain ⟨base, hbase⟩ : ∃ base, w1.heap.size = base := ⟨_, rfl⟩
  rw [hbase] at HP1
  have HBs := Lib.hid hbase
  clear hb1 hrl hbase
  go_wp2_with fail
  go_loopw [12, 13] (fun s12 s13 wr => ∃ (i m : Nat) (ad : Option Addr) (c : Nat) (xs : List RC) (L : List Rl), s13 = .int .i64 i ∧ s12 = .slice ad m c ∧ i ≤ n ∧ m ≤ i ∧ Hid (L.length = m) ∧ Hid (RPSt base acc ad0 (.slice ad m c) xs L wr) ∧ Hid (Below base w1 wr) ∧ Hid (Pr.parseF width acc [] = Pr.parseF width (acc.drop i) L)) (fun _ s13 _ => n - (intOf s13).toNat)
  case atStart => exact ⟨0, 0, none, 0, [], [], rfl, rfl, Nat.zero_le _, Nat.le_refl _, rfl, HP1, Below.refl _ _, rfl⟩
  case round =>
    clear HP1
    obtain ⟨wo, rfl⟩ : ∃ wo : World, wo = wr := ⟨wr, rfl⟩
    obtain ⟨i, m, ad, c, xs, L, rfl, rfl, hin, hmi, HLn, HSt, HBo, HDo⟩ := hrel
    by_cases hlt : i < n
    · have hik : i < acc.length := by rw [HN.out]; exact hlt
      obtain ⟨b, off, adw, capw, rfl, hbo, hbl, hc, hr⟩ := HSt.out.ln i hik
      obtain ⟨ws, hws⟩ : ∃ ws, acc[i] = ws := ⟨_, rfl⟩
      have hsm := HSm.out.2 _ (List.getElem_mem hik)
      have hst := Pr.parseF_step (width := width) hik L
      rw [hws] at hc hr hsm hst
      obtain ⟨k, hk⟩ : ∃ k, ws.length = k := ⟨_, rfl⟩
      rw [hk] at hc hr
      have hsz : s.size ≤ 1048576 := HSz.out
      obtain ⟨W5, hW5⟩ : ∃ W5, W5 = wo.alloc (.cells #[.slice adw k capw, .int .i64 0, .int .i64 0, .int .i64 0, .int .i64 0] 130) := ⟨_, rfl⟩
      have hb5 : Below wo.heap.size wo W5 := by rw [hW5]; exact (Below.refl _ _).alloc (Nat.le_refl _) _
      have hs5 : W5.heap.size = wo.heap.size + 1 := by rw [hW5]; simp
      have hh5 : W5.heap[wo.heap.size]? = some (.cells #[.slice adw k capw, .int .i64 0, .int .i64 0, .int .i64 0, .int .i64 0] 130 (0, 0)) := by rw [hW5]; exact heap_alloc_new _ _
      have hR : RRd (fun b => b < base) wo.heap.size 0 0 0 0 (.slice adw k capw) ws W5 := ⟨⟨by simp [World.cell?, hh5], by simp [World.cell?, hh5], by simp [World.frozen?, hh5], hr.below hb5, fun b hb e => by have := HSt.out.lo; omega, hsm.1, by have := hsm.2.1; omega, fun x hx => by have := (hsm.2.2 x hx).2; omega⟩, by simp [World.cell?, hh5], by simp [World.cell?, hh5], by simp [World.cell?, hh5], by simp [World.frozen?, hh5], by simp [World.frozen?, hh5], by simp [World.frozen?, hh5]⟩
      have HR := Lib.hid hR
      have HRule := Lib.hid (rrule_rd hR (fun b hb => by have := HSt.out.lo; omega) (fun x hx => by have := (hsm.2.2 x hx).1; omega) width)
      have HStp := Lib.hid (HDo.out.trans hst)
      have HBl := Lib.hid hb5
      have HSz5 := Lib.hid hs5
      have HW5 := Lib.hid hW5
      clear hR hr hsm hst hws hb5 hs5 hh5 hW5 hsz
      go_upto_region 11 with fail
      rw [← HW5.out]
      clear HW5
      go_wp2_with fail
      refine HRule.out.mono ?_
      intro e w6 hpost
      have hstp := HStp.out
      clear HStp
      cases hrl : Pr.rule ws width with
      | error cj =>
        obtain ⟨cc, j⟩ := cj
        have hce : cc ≠ 0 := Pr.rule_err hrl
        unfold RRulePost at hpost
        rw [hrl] at hpost hstp
        obtain ⟨⟨x, rfl⟩, ⟨j', hr6⟩, hb6⟩ := hpost
        have hb06 : Below wo.heap.size wo w6 := (but_fresh (But.below (S := fun _ => False) HBl.out) hb6 (fun x e => by omega)).toBelow (Nat.le_refl _) (fun _ h => h.elim)
        obtain ⟨w7, hw7⟩ : ∃ w7, w7 = (w6.alloc (.cells #[.int .i64 x.p, .string x.m, .int .i64 x.k, .slice x.a x.n x.c] 47)) := ⟨_, rfl⟩
        have hb7 : Below w6.heap.size w6 w7 := by rw [hw7]; exact (Below.refl _ _).alloc (Nat.le_refl _) _
        have hr7 := hr6.below hb7
        have d2 := hr7.c2
        have d3 := hr7.c3
        have d4 := hr7.c4
        have q1 : (cc == 0) = false := by simpa using hce
        have q2 : (cc != 0) = true := by simpa using hce
        have HE := Lib.hid (HP.out.trans hstp)
        have HB7 := Lib.hid (hb06.trans (hb7.mono hb06.size))
        have HW7 := Lib.hid hw7
        clear hrl hstp hb6 hb06 hr6 hw7 hb7 hr7 hce HRule HR
        go_upto_region 12 with fail
        rw [← HW7.out]
        clear HW7
        go_wp2_with fail
        go_quiet (fail)
        go_wp2_with fail
        refine bodyPost_ret (v := .tuple #[.slice none 0 0, .int .i64 (Pr.wd ws j).l, .int .i64 (Pr.wd ws j).c, .int .i64 cc]) (by simp [results, go_sem]) rfl ?_
        show ParsePost _ _ _ _ _
        unfold ParsePost
        rw [HE.out]
        exact ⟨rfl, HB1.out.trans ((HBo.out.mono (by have := HB1.out.size; have := HBs.out; omega)).trans ((below_dN HB7.out nq).mono (by have := HSt.out.lo; have := HB1.out.size; have := HBs.out; omega)))⟩
      | ok r =>
        unfold RRulePost at hpost
        rw [hrl] at hpost hstp
        obtain ⟨x, rfl, hx, ⟨j, hR6⟩, hb6⟩ := hpost
        have HStp := Lib.hid hstp
        obtain ⟨w7, hw7⟩ : ∃ w7, w7 = (w6.alloc (.cells #[.int .i64 x.p, .string x.m, .int .i64 x.k, .slice x.a x.n x.c] 47)) := ⟨_, rfl⟩
        have hb7 : Below w6.heap.size w6 w7 := by rw [hw7]; exact (Below.refl _ _).alloc (Nat.le_refl _) _
        have hh7 : w7.heap[w6.heap.size]? = some (.cells #[.int .i64 x.p, .string x.m, .int .i64 x.k, .slice x.a x.n x.c] 47 (0, 0)) := by rw [hw7]; exact heap_alloc_new _ _
        have hR7 := hR6.below hb7
        have d4 := hR7.c4
        have d1 := hR7.r.c1
        have g1 := hR7.r.f1
        obtain ⟨w8, hw8⟩ : ∃ w8, w8 = w7.setCell ⟨wo.heap.size, 1, none⟩ (.int .i64 0) := ⟨_, rfl⟩
        have hst8 : RRd (fun b => b < base) wo.heap.size 0 0 0 0 (.slice adw k capw) ws w8 ∧ But (fun b => b = wo.heap.size) w7 w8 := by rw [hw8]; exact hR7.step 0
        have hl6 := hR6.r.lt
        have hh8 := (hst8.2.block _ (Array.getElem?_eq_some_iff.1 hh7).1 (by omega)).trans hh7
        have hx8 := (hx.below hb7).but hst8.2 (fun b hb e => by have := HSz5.out; omega)
        have hq8 := but_fresh (but_fresh (but_fresh (But.below (S := fun _ => False) HBl.out) hb6 (fun x e => by omega)) (But.below (S := fun _ => False) hb7) (fun _ h => h.elim)) hst8.2 (fun x e => by omega)
        have hb08 : Below wo.heap.size wo w8 := hq8.toBelow (Nat.le_refl _) (fun _ h => h.elim)
        have HSt8 := Lib.hid (HSt.out.below hb08)
        have HB8 := Lib.hid hb08
        have HR8 := Lib.hid hst8.1
        have HX8 := Lib.hid hx8
        have HH8 := Lib.hid hh8
        have HW7 := Lib.hid hw7
        have HW8 := Lib.hid hw8
        have e0 : w8.cell? ⟨w6.heap.size, 0, none⟩ = some (.int .i64 x.p) := by simp [World.cell?, hh8]
        have e1 : w8.cell? ⟨w6.heap.size, 1, none⟩ = some (.string x.m) := by simp [World.cell?, hh8]
        have e2 : w8.cell? ⟨w6.heap.size, 2, none⟩ = some (.int .i64 x.k) := by simp [World.cell?, hh8]
        have e3 : w8.cell? ⟨w6.heap.size, 3, none⟩ = some (.slice x.a x.n x.c) := by simp [World.cell?, hh8]
        have hl8 : w6.heap.size < w8.heap.size := (Array.getElem?_eq_some_iff.1 hh8).1
        have hwo6 : wo.heap.size < w6.heap.size := by have := hb6.size; have := HSz5.out; omega
        obtain ⟨kn, hkn⟩ : ∃ kn, knownB L r.p r.m = kn := ⟨_, rfl⟩
        have HKn : Hid (Calls Tryz.prog 45 #[.slice ad m c, .agg #[.int .i64 x.p, .string x.m, .int .i64 x.k, .slice x.a x.n x.c]] w8 fun e w' => e = .returned (.bool kn) ∧ Below w8.heap.size w8 w') := by
          have h := rknown_any (HSt8.out.own.freshRdsP) x
          rw [hx8.p, hx8.m, hkn] at h
          rw [hx8.p, hx8.m]
          exact h
        have hstp2 := HStp.out
        dsimp only at hstp2
        rw [hkn] at hstp2
        have HStq := Lib.hid hstp2
        clear hrl hstp hstp2 hkn hst8 hh8 hx8 hq8 hb08 hh7 hR7 hb7 hw7 hw8 hx hb6 hR6 HRule HR HStp hl6
        go_upto_region 12 with fail
        rw [← HW7.out]
        clear HW7
        go_upto_region 14 with fail
        rw [← HW8.out]
        clear HW8 d4 d1 g1
        go_wp2_with fail
        refine HKn.out.mono ?_
        rintro e w9 ⟨rfl, hb9⟩
        have hR9 := HR8.out.below hb9
        have HB9 := Lib.hid (HB8.out.trans (hb9.mono HB8.out.size))
        have HSt9 := Lib.hid (HSt8.out.below hb9)
        have HX9 := Lib.hid (HX8.out.below hb9)
        have HH9 := Lib.hid ((hb9.block _ hl8).trans HH8.out)
        have u0 := (hb9.cell (p := ⟨w6.heap.size, 0, none⟩) hl8).trans e0
        have u1 := (hb9.cell (p := ⟨w6.heap.size, 1, none⟩) hl8).trans e1
        have u2 := (hb9.cell (p := ⟨w6.heap.size, 2, none⟩) hl8).trans e2
        have u3 := (hb9.cell (p := ⟨w6.heap.size, 3, none⟩) hl8).trans e3
        have HR9 := Lib.hid hR9
        clear hR9 hb9 HKn HSt8 HB8 HR8 HX8 HH8 e0 e1 e2 e3
        cases kn with
        | true =>
          have HFl := Lib.hid (fail_any HR9.out 52 (Pr.wd ws 0) rfl)
          have HE := Lib.hid (HP.out.trans (HStq.out.trans (if_pos rfl)))
          clear HR9 HStq
          go_wp2_with fail
          refine HFl.out.mono ?_
          rintro e w10 ⟨rfl, hr10, hb10⟩
          have d2 := hr10.c2
          have d3 := hr10.c3
          have d4 := hr10.c4
          have hb : Below wo.heap.size wo w10 := HB9.out.trans (hb10.toBelow HB9.out.size (fun k hk => by omega))
          have HB10 := Lib.hid hb
          clear hr10 hb10 hb
          go_wp2_with fail
          go_quiet (fail)
          go_wp2_with fail
          refine bodyPost_ret (v := .tuple #[.slice none 0 0, .int .i64 (Pr.wd ws 0).l, .int .i64 (Pr.wd ws 0).c, .int .i64 52]) (by simp [results, go_sem]) rfl ?_
          show ParsePost _ _ _ _ _
          unfold ParsePost
          rw [HE.out]
          exact ⟨rfl, HB1.out.trans ((HBo.out.mono (by have := HB1.out.size; have := HBs.out; omega)).trans ((below_dN HB10.out nq).mono (by have := HSt.out.lo; have := HB1.out.size; have := HBs.out; omega)))⟩
        | false =>
          have hst0 := HStq.out
          rw [if_neg (by decide), HLn.out] at hst0
          by_cases hmm : m < 4096
          · have hmz : decide ((4096 : Int) ≤ (m : Int)) = false := by simp; omega
            rw [if_neg (fun h => h hmm)] at hst0
            have HStz := Lib.hid hst0
            have d4 := HR9.out.c4
            have hxF : RdC (fun b => okFP base (.slice ad m c) b) w9 x r := HX9.out.mono fun b hb => ⟨by have := HSt.out.lo; have := HSz5.out; omega, fun e => by have := (own_ge HSt.out.own.row b e).2; have := HSz5.out; omega⟩
            have HXF := Lib.hid hxF
            obtain ⟨w10, hw10⟩ : ∃ w10, w10 = w9.alloc (.cells #[.int .i64 x.p, .string x.m, .int .i64 x.k, .slice x.a x.n x.c] 47) := ⟨_, rfl⟩
            have hb10 : Below w9.heap.size w9 w10 := by rw [hw10]; exact (Below.refl _ _).alloc (Nat.le_refl _) _
            have HH10 : Hid (w10.heap[w9.heap.size]? = some (.cells #[.int .i64 x.p, .string x.m, .int .i64 x.k, .slice x.a x.n x.c] 47 (0, 0))) := by show _ = _; rw [hw10]; exact heap_alloc_new _ _
            have HS10 := Lib.hid (HSt9.out.below hb10)
            have HX10 := Lib.hid (HXF.out.below hb10)
            have HB10 := Lib.hid (HB9.out.trans (hb10.mono HB9.out.size))
            have HW10 := Lib.hid hw10
            clear hmm hst0 HStq hxF hw10 hb10 HR9 HX9 HXF
            go_wp2_with (at_builtin; go_loud (refine wpList_plain rfl (fun _ hK => wp_app_oneP (.tmp 84) (.tmp 86) rfl base (.slice ad m c) xs L (by rfl) (by rw [← HW10.out]; exact HS10.out.own) w9.heap.size 1 x r (by rfl) (by rw [← HW10.out]; exact HH10.out) (by rw [← HW10.out]; exact HX10.out) (m + 1) (by rw [HLn.out]) (by omega) (by rw [← HW10.out]; exact HS10.out.lo) (fun ad16 c16 w16 ho16 hg16 => hK _ _ ?_))); have HO16 := Lib.hid ho16; rw [← HW10.out] at hg16; have HG16 := Lib.hid hg16; clear ho16 hg16 hK)
            go_roundw
            case rel => exact ⟨i + 1, m + 1, ad16, c16, xs ++ [x], L ++ [r], by first | rfl | go_num, rfl, by omega, by omega, by show _ = _; rw [List.length_append, HLn.out]; rfl, HS10.out.grown HG16.out HO16.out, (Below.grown (B := base) (a := w1) (HBo.out.trans (HB10.out.mono HSt.out.lo)) HG16.out (by exact HS10.out.lo) (fun k hk => (own_ge HS10.out.own.row k hk).1)), HStz.out⟩
            case measure => simp [intOf]; omega
          · have hmz : (4096 : Int) ≤ (m : Int) := by omega
            rw [if_pos hmm] at hst0
            have HE := Lib.hid (HP.out.trans hst0)
            have HFl := Lib.hid (fail_any HR9.out 3 (Pr.wd ws 0) rfl)
            clear hmm hst0 HR9 HStq
            go_wp2_with fail
            refine HFl.out.mono ?_
            rintro e w10 ⟨rfl, hr10, hb10⟩
            have d2 := hr10.c2
            have d3 := hr10.c3
            have d4 := hr10.c4
            have hb : Below wo.heap.size wo w10 := HB9.out.trans (hb10.toBelow HB9.out.size (fun k hk => by omega))
            have HB10 := Lib.hid hb
            clear hr10 hb10 hb
            go_wp2_with fail
            go_quiet (fail)
            go_wp2_with fail
            refine bodyPost_ret (v := .tuple #[.slice none 0 0, .int .i64 (Pr.wd ws 0).l, .int .i64 (Pr.wd ws 0).c, .int .i64 3]) (by simp [results, go_sem]) rfl ?_
            show ParsePost _ _ _ _ _
            unfold ParsePost
            rw [HE.out]
            exact ⟨rfl, HB1.out.trans ((HBo.out.mono (by have := HB1.out.size; have := HBs.out; omega)).trans ((below_dN HB10.out nq).mono (by have := HSt.out.lo; have := HB1.out.size; have := HBs.out; omega)))⟩
    · have hie : i = acc.length := by rw [HN.out]; omega
      have HE : Hid (Pr.parse s width = .ok L) := by
        show _ = _
        rw [HP.out, HDo.out, hie, List.drop_length]
        rfl
      clear hie HDo
      go_wp2_with fail
      refine bodyPost_ret (v := .tuple #[.slice ad m c, .int .i64 0, .int .i64 0, .int .i64 0]) (by simp [results, go_sem]) rfl ?_
      show ParsePost _ _ _ _ _
      unfold ParsePost
      rw [HE.out]
      have hm := HLn.out
      subst hm
      have hlo : w.heap.size ≤ base := by have := HB1.out.size; have := HBs.out; omega
      exact ⟨ad, c, rfl, HSt.out.own.freshRdsP.mono fun b hb => by omega, HB1.out.trans (HBo.out.mono hlo)⟩
theorem rParse_any (s : ByteArray) (width : Int) (w : World) (hs : s.size ≤ 1048576) : Calls Tryz.prog 30 #[.string s, .int .i64 width] w (ParsePost s width w) := by
  by_cases h : width < 1 ∨ 128 < width
  · exact rparse_width s width w h
  · cases hl : Wd.lines s.data.toList with
    | error e =>
      obtain ⟨num, p⟩ := e
      exact rparse_err s width w hs (by omega) (by omega) num p hl
    | ok acc => exact rparse_ok s width w hs (by omega) (by omega) acc hl
end Go.Proofs.YtlamhpiiikcpiaaGreatDoor
