/-
  Walks over package rules: a line's reader: word, is, must.
-/
import Derived.Test.YtlamhpiiikcpiaaGreatDoorRgA
import Derived.Test.YtlamhpiiikcpiaaGreatDoorRgF
import Derived.BigQuiet
import Derived.Deep.RegionHeld3
import Derived.Test.YtlamhpiiikcpiaaGreatDoorRgC
import Derived.Deep.RegionLaw
import Derived.Lib.SplitLaws
import Derived.Lib.ReplaceLaws
import Derived.Lib.IndexBytes
import Derived.Test.YtlamhpiiikcpiaaGreatDoorShelfB
namespace Go.Proofs.YtlamhpiiikcpiaaGreatDoor
open Go.RowKit Go.Shelf Go.Lib Go.Sort
set_option linter.unusedVariables false
set_option linter.unusedSectionVars false
set_option linter.unusedSimpArgs false
namespace Pr
/-- The word that comes; an empty one behind the last. -/
def wd (ws : List Wrd) (i : Nat) : Wrd := if h : i < ws.length then ws[i] else ⟨⟨#[]⟩, (ws.getLastD default).l, (ws.getLastD default).c + (ws.getLastD default).t.size⟩
theorem wd_in {ws : List Wrd} {i : Nat} (h : i < ws.length) : wd ws i = ws[i] := by unfold wd; rw [dif_pos h]
theorem wd_out {ws : List Wrd} {i : Nat} (h : ¬ i < ws.length) (hn : 0 < ws.length) : wd ws i = ⟨⟨#[]⟩, (ws[ws.length - 1]'(by omega)).l, (ws[ws.length - 1]'(by omega)).c + (ws[ws.length - 1]'(by omega)).t.size⟩ := by
  have e : ws.getLastD default = ws[ws.length - 1]'(by omega) := by
    cases ws with
    | nil => simp at hn
    | cons a l => simp [List.getLastD, List.getLast_eq_getElem]
  unfold wd
  rw [dif_neg h, e]
end Pr
/-- A reader in block rb: its words, its place. -/
structure Rdr (ok : Nat → Prop) (rb i : Nat) (v : Value) (ws : List Wrd) (w : World) : Prop where
  c0 : w.cell? ⟨rb, 0, none⟩ = some v
  c1 : w.cell? ⟨rb, 1, none⟩ = some (.int .i64 i)
  f1 : w.frozen? ⟨rb, 1, none⟩ = false
  rd : RdsW ok w v ws
  no : ∀ b, ok b → b ≠ rb
  ne : 0 < ws.length
  few : ws.length ≤ 2000000
  z : ∀ x ∈ ws, x.c + x.t.size ≤ 4000000
theorem cellLt {w : World} {p : Addr} {u : Value} (h : w.cell? p = some u) : p.block < w.heap.size := by
  rcases Nat.lt_or_ge p.block w.heap.size with h3 | h3
  · exact h3
  · rw [World.cell?, Array.getElem?_eq_none h3] at h; cases h
theorem Rdr.lt {ok : Nat → Prop} {rb i : Nat} {v : Value} {ws : List Wrd} {w : World} (h : Rdr ok rb i v ws w) : rb < w.heap.size := cellLt h.c0
theorem Rdr.but {ok S : Nat → Prop} {rb i : Nat} {v : Value} {ws : List Wrd} {w w' : World} (h : Rdr ok rb i v ws w) (hb : But S w w') (h1 : ¬ S rb) (h2 : ∀ b, ok b → ¬ S b) : Rdr ok rb i v ws w' :=
  ⟨(hb.cell (p := ⟨rb, 0, none⟩) h.lt h1).trans h.c0, (hb.cell (p := ⟨rb, 1, none⟩) h.lt h1).trans h.c1, (hb.frozen (p := ⟨rb, 1, none⟩) h.lt h1).trans h.f1, h.rd.but hb h2, h.no, h.ne, h.few, h.z⟩
theorem Rdr.below {ok : Nat → Prop} {rb i : Nat} {v : Value} {ws : List Wrd} {w w' : World} (h : Rdr ok rb i v ws w) (hb : Below w.heap.size w w') : Rdr ok rb i v ws w' := h.but (S := fun _ => False) (But.below hb) (fun h => h) (fun _ _ h => h)
theorem Rdr.step {ok : Nat → Prop} {rb i : Nat} {v : Value} {ws : List Wrd} {w : World} (h : Rdr ok rb i v ws w) (j : Nat) : Rdr ok rb j v ws (w.setCell ⟨rb, 1, none⟩ (.int .i64 j)) ∧ But (fun b => b = rb) w (w.setCell ⟨rb, 1, none⟩ (.int .i64 j)) := by
  have hb : But (fun b => b = rb) w (w.setCell ⟨rb, 1, none⟩ (.int .i64 j)) := But.set (S := fun b => b = rb) (a := ⟨rb, 1, none⟩) rfl _
  exact ⟨⟨(cell_set_other _ (by simp)).trans h.c0, cell_set_same _ h.c1, by rw [World.frozen?_setCell]; exact h.f1, h.rd.but hb (fun b hk e => h.no b hk e), h.no, h.ne, h.few, h.z⟩, hb⟩
theorem cell_setd {W : World} {g o : Nat} {u : Value} {p : Addr} {r : Option Value} (hne : g ≠ p.block) (h : W.cell? p = r) : (W.setCell ⟨g, o, none⟩ u).cell? p = r := (cell_set_other _ (fun e => hne (by rw [← e]))).trans h
theorem cell_setd2 {W : World} {q : Addr} {u : Value} {p : Addr} {r : Option Value} (h : W.cell? p = r) (hne : q ≠ p) : (W.setCell q u).cell? p = r := (cell_set_other _ hne).trans h
theorem res_word (w : World) (b : Nat) (tmps : Array Value) (t : ByteArray) (l c : Int) (h2 : tmps.getD 2 undef = .pointer (some ⟨b, 0, none⟩)) (h0 : w.cell? ⟨b, 0, none⟩ = some (.string t)) (h1 : w.cell? ⟨b, 1, none⟩ = some (.int .i64 l)) (h3 : w.cell? ⟨b, 2, none⟩ = some (.int .i64 c)) :
    (results Tryz.f86 tmps).run Tryz.prog w = .ok (.agg #[.string t, .int .i64 l, .int .i64 c]) w := by
  rw [Array.getD_eq_getD_getElem?] at h2
  simp [results, Tryz.results86, h2, loadVar, asAddr, go_sem, Tryz.isAgg167, Tryz.sizeOf167, h0, h1, h3]
set_option maxHeartbeats 1600000 in
set_option maxRecDepth 20000 in
theorem word_any {ok : Nat → Prop} {rb i : Nat} {v : Value} {ws : List Wrd} {w : World} (h : Rdr ok rb i v ws w) (q : Wrd) (hq : Pr.wd ws i = q) :
    Calls Tryz.prog 86 #[.pointer (some ⟨rb, 0, none⟩)] w fun e w' => e = .returned (.agg #[.string q.t, .int .i64 q.l, .int .i64 q.c]) ∧ Below w.heap.size w w' := by
  subst hq
  obtain ⟨W0, hW0⟩ : ∃ W0, W0 = w.alloc (.cells #[.string ⟨#[]⟩, .int .i64 0, .int .i64 0] 167) := ⟨_, rfl⟩
  have hb0 : Below w.heap.size w W0 := by rw [hW0]; exact (Below.refl _ _).alloc (Nat.le_refl _) _
  have hh0 : W0.heap[w.heap.size]? = some (.cells #[.string ⟨#[]⟩, .int .i64 0, .int .i64 0] 167 (0, 0)) := by rw [hW0]; exact heap_alloc_new _ _
  have hlt := h.lt
  obtain ⟨ad, cap, hv, hnc, hcm, _⟩ := id h.rd
  have hne := h.ne
  have hfew := h.few
  have hz := h.z
  obtain ⟨n, hn⟩ : ∃ n, ws.length = n := ⟨_, rfl⟩
  have h0 := h.below hb0
  have hrd := h.rd
  rw [hv] at hrd
  have c0 := h0.c0
  have c1 := h0.c1
  rw [hv, hn] at c0
  rw [hn] at hrd hne hfew
  have hs0 : W0.heap.size = w.heap.size + 1 := by rw [hW0]; simp
  have HB0 := Lib.hid hb0
  have HH0 := Lib.hid hh0
  have HW0 := Lib.hid hW0
  have HS0 := Lib.hid hs0
  by_cases hi : i < n
  · obtain ⟨b, off, rfl, hbl, k0, k1, k2⟩ := hrd.at_ i (by rw [hn]; exact hi)
    rw [Pr.wd_in (by rw [hn]; exact hi)]
    obtain ⟨x, hx⟩ : ∃ x, ws[i]'(by rw [hn]; exact hi) = x := ⟨_, rfl⟩
    rw [hx] at k0 k1 k2 ⊢
    have K0 := (hb0.cell (p := ⟨b, off + i * 3, none⟩) hbl).trans k0
    have K1 := (hb0.cell (p := ⟨b, off + i * 3 + 1, none⟩) hbl).trans k1
    have K2 := (hb0.cell (p := ⟨b, off + i * 3 + 2, none⟩) hbl).trans k2
    have hiz : (i : Int) < (n : Int) := by omega
    have hi0 : (0 : Int) ≤ (i : Int) := by omega
    clear h h0 hrd hn hz hv hnc hcm hW0 hb0 hh0 hs0 hx k0 k1 k2 hne hfew
    go_enter Tryz.func86, Tryz.ntmps86
    go_upto_region 1 with fail
    rw [← HW0.out]
    clear HW0
    go_wp2_with fail
    go_quiet (fail)
    go_upto_region 2 with fail
    obtain ⟨wq, hwq⟩ : ∃ wq, wq = W0.drewN nq := ⟨_, rfl⟩
    have hc : ∀ p, wq.cell? p = W0.cell? p := fun p => by rw [hwq]; rfl
    have hbq : Below w.heap.size w wq := by rw [hwq]; exact below_dN HB0.out nq
    have hhq : wq.heap[w.heap.size]? = some (.cells #[.string ⟨#[]⟩, .int .i64 0, .int .i64 0] 167 (0, 0)) := by rw [hwq]; exact HH0.out
    rw [← hwq]
    have d0 := (hc _).trans c0
    have d1 := (hc _).trans c1
    have D0 := (hc _).trans K0
    have D1 := (hc _).trans K1
    have D2 := (hc _).trans K2
    have t0 : wq.cell? ⟨w.heap.size, 0, none⟩ = some (.string ⟨#[]⟩) := by simp [World.cell?, hhq]
    have t1 : wq.cell? ⟨w.heap.size, 1, none⟩ = some (.int .i64 0) := by simp [World.cell?, hhq]
    have t2 : wq.cell? ⟨w.heap.size, 2, none⟩ = some (.int .i64 0) := by simp [World.cell?, hhq]
    have g0 : wq.frozen? ⟨w.heap.size, 0, none⟩ = false := by simp [World.frozen?, hhq]
    have g1 : wq.frozen? ⟨w.heap.size, 1, none⟩ = false := by simp [World.frozen?, hhq]
    have g2 : wq.frozen? ⟨w.heap.size, 2, none⟩ = false := by simp [World.frozen?, hhq]
    have HBq := Lib.hid hbq
    clear c0 c1 K0 K1 K2 hc hhq hwq hbq
    have hk : wq.cell? ⟨rb, 0, none⟩ = some (.slice (some ⟨b, off, none⟩) n cap) ∧ wq.cell? ⟨rb, 1, none⟩ = some (.int .i64 i) ∧ wq.cell? ⟨b, off + i * 3, none⟩ = some (.string x.t) ∧ wq.cell? ⟨b, off + i * 3 + 1, none⟩ = some (.int .i64 x.l) ∧ wq.cell? ⟨b, off + i * 3 + 2, none⟩ = some (.int .i64 x.c) := ⟨d0, d1, D0, D1, D2⟩
    have hky : ∀ (x1 x2 x3 : Value) (p : Addr) (r : Option Value), p.block < w.heap.size → wq.cell? p = r → (((wq.setCell ⟨w.heap.size, 0, none⟩ x1).setCell ⟨w.heap.size, 1, none⟩ x2).setCell ⟨w.heap.size, 2, none⟩ x3).cell? p = r := fun x1 x2 x3 p r hp h =>
      cell_setd (by show w.heap.size ≠ p.block; omega) (cell_setd (by show w.heap.size ≠ p.block; omega) (cell_setd (by show w.heap.size ≠ p.block; omega) h))
    go_region_held3 (fun Wx => Wx.cell? ⟨rb, 0, none⟩ = some (.slice (some ⟨b, off, none⟩) n cap) ∧ Wx.cell? ⟨rb, 1, none⟩ = some (.int .i64 i) ∧ Wx.cell? ⟨b, off + i * 3, none⟩ = some (.string x.t) ∧ Wx.cell? ⟨b, off + i * 3 + 1, none⟩ = some (.int .i64 x.l) ∧ Wx.cell? ⟨b, off + i * 3 + 2, none⟩ = some (.int .i64 x.c)) (first | exact hk | exact ⟨hky _ _ _ _ _ hlt hk.1, hky _ _ _ _ _ hlt hk.2.1, hky _ _ _ _ _ hbl hk.2.2.1, hky _ _ _ _ _ hbl hk.2.2.2.1, hky _ _ _ _ _ hbl hk.2.2.2.2⟩ | go_keep) (fail)
    rename_i hHeld
    clear hHeld hk hky d0 d1 D0 D1 D2
    go_wp2_with fail
    refine bodyPost_ret (res_word _ w.heap.size _ x.t x.l x.c rfl ?_ ?_ ?_) rfl ?_
    · exact cell_setd2 (cell_setd2 (cell_set_same _ t0) (by simp)) (by simp)
    · exact cell_setd2 (cell_set_same _ (cell_setd2 t1 (by simp))) (by simp)
    · exact cell_set_same _ (cell_setd2 (cell_setd2 t2 (by simp)) (by simp))
    · exact ⟨rfl, ((((HBq.out.setCell (Nat.le_refl _) _).setCell (Nat.le_refl _) _).setCell (Nat.le_refl _) _)).drew⟩
  · have hn0 : 0 < n := hne
    obtain ⟨b, off, rfl, hbl, k0, k1, k2⟩ := hrd.at_ (n - 1) (by rw [hn]; omega)
    rw [Pr.wd_out (by rw [hn]; exact hi) (by rw [hn]; exact hne)]
    obtain ⟨m, hm⟩ : ∃ m, n - 1 = m := ⟨_, rfl⟩
    have hmn : m < n := by omega
    obtain ⟨x, hx⟩ : ∃ x, ws[n - 1]'(by rw [hn]; omega) = x := ⟨_, rfl⟩
    have hx2 : ws[ws.length - 1]'(by rw [hn]; omega) = x := by rw [← hx]; congr 1; omega
    rw [hx2]
    have hxz := hz x (by rw [← hx]; exact List.getElem_mem _)
    rw [hx] at k0 k1 k2
    rw [hm] at k0 k1 k2
    have K0 := (hb0.cell (p := ⟨b, off + m * 3, none⟩) hbl).trans k0
    have K1 := (hb0.cell (p := ⟨b, off + m * 3 + 1, none⟩) hbl).trans k1
    have K2 := (hb0.cell (p := ⟨b, off + m * 3 + 2, none⟩) hbl).trans k2
    have hiz : decide ((i : Int) < (n : Int)) = false := by simp; omega
    have hmz : (n : Int) - 1 = (m : Int) := by omega
    have hw1 : IntKind.i64.wrap ((n : Int) - 1) = (m : Int) := by rw [hmz]; exact IntWalk.i64_in _ (by omega)
    have hw2 : IntKind.i64.wrap (m : Int) = (m : Int) := IntWalk.i64_in _ (by omega)
    have hw3 : IntKind.i64.wrap ((x.c : Int) + (x.t.size : Int)) = (x.c : Int) + (x.t.size : Int) := IntWalk.i64_in _ (by omega)
    have hm0 : (0 : Int) ≤ (m : Int) := by omega
    have hm1 : (m : Int) < (n : Int) := by omega
    clear h h0 hrd hn hz hv hnc hcm hW0 hb0 hh0 hs0 hx hx2 k0 k1 k2 hne hfew hm
    go_enter Tryz.func86, Tryz.ntmps86
    go_upto_region 1 with fail
    rw [← HW0.out]
    clear HW0
    go_wp2_with fail
    go_quiet (fail)
    go_upto_region 3 with fail
    obtain ⟨wq, hwq⟩ : ∃ wq, wq = W0.drewN nq := ⟨_, rfl⟩
    have hc : ∀ p, wq.cell? p = W0.cell? p := fun p => by rw [hwq]; rfl
    have hbq : Below w.heap.size w wq := by rw [hwq]; exact below_dN HB0.out nq
    have hhq : wq.heap[w.heap.size]? = some (.cells #[.string ⟨#[]⟩, .int .i64 0, .int .i64 0] 167 (0, 0)) := by rw [hwq]; exact HH0.out
    have hsq : wq.heap.size = w.heap.size + 1 := by rw [hwq]; exact HS0.out
    rw [← hwq]
    have d0 := (hc _).trans c0
    have D0 := (hc _).trans K0
    have D1 := (hc _).trans K1
    have D2 := (hc _).trans K2
    have HHq := Lib.hid hhq
    have HBq := Lib.hid hbq
    have HSq := Lib.hid hsq
    have hbq1 : b < wq.heap.size := by omega
    have hrq1 : rb < wq.heap.size := by omega
    clear c0 c1 K0 K1 K2 hc hhq hwq hbq hsq
    have hk : wq.cell? ⟨rb, 0, none⟩ = some (.slice (some ⟨b, off, none⟩) n cap) ∧ wq.cell? ⟨b, off + m * 3, none⟩ = some (.string x.t) ∧ wq.cell? ⟨b, off + m * 3 + 1, none⟩ = some (.int .i64 x.l) ∧ wq.cell? ⟨b, off + m * 3 + 2, none⟩ = some (.int .i64 x.c) := ⟨d0, D0, D1, D2⟩
    have hky : ∀ (o : Obj) (p : Addr) (r : Option Value), p.block < wq.heap.size → wq.cell? p = r → (wq.alloc o).cell? p = r := fun o p r hp h => (((Below.refl _ _).alloc (Nat.le_refl _) o : Below wq.heap.size wq (wq.alloc o)).cell hp).trans h
    go_region_held3 (fun Wx => Wx.cell? ⟨rb, 0, none⟩ = some (.slice (some ⟨b, off, none⟩) n cap) ∧ Wx.cell? ⟨b, off + m * 3, none⟩ = some (.string x.t) ∧ Wx.cell? ⟨b, off + m * 3 + 1, none⟩ = some (.int .i64 x.l) ∧ Wx.cell? ⟨b, off + m * 3 + 2, none⟩ = some (.int .i64 x.c)) (first | exact hk | exact ⟨hky _ _ _ hrq1 hk.1, hky _ _ _ hbq1 hk.2.1, hky _ _ _ hbq1 hk.2.2.1, hky _ _ _ hbq1 hk.2.2.2⟩ | go_keep) (fail)
    rename_i hHeld
    clear hHeld hk hky d0 D0 D1 D2
    obtain ⟨w3, hw3⟩ : ∃ w3, w3 = (wq.alloc (.cells #[.string x.t, .int .i64 x.l, .int .i64 x.c] 167)).drew := ⟨_, rfl⟩
    have hb3 : Below wq.heap.size wq w3 := by rw [hw3]; exact ((Below.refl _ _).alloc (Nat.le_refl _) _).drew
    have hh3 : w3.heap[wq.heap.size]? = some (.cells #[.string x.t, .int .i64 x.l, .int .i64 x.c] 167 (0, 0)) := by rw [hw3]; exact heap_alloc_new _ _
    have hh4 : w3.heap[w.heap.size]? = some (.cells #[.string ⟨#[]⟩, .int .i64 0, .int .i64 0] 167 (0, 0)) := (hb3.block _ (by rw [HSq.out]; omega)).trans HHq.out
    have hsq := HSq.out
    have y0 : w3.cell? ⟨wq.heap.size, 0, none⟩ = some (.string x.t) := by simp [World.cell?, hh3]
    have y1 : w3.cell? ⟨wq.heap.size, 1, none⟩ = some (.int .i64 x.l) := by simp [World.cell?, hh3]
    have y2 : w3.cell? ⟨wq.heap.size, 2, none⟩ = some (.int .i64 x.c) := by simp [World.cell?, hh3]
    have t0 : w3.cell? ⟨w.heap.size, 0, none⟩ = some (.string ⟨#[]⟩) := by simp [World.cell?, hh4]
    have t1 : w3.cell? ⟨w.heap.size, 1, none⟩ = some (.int .i64 0) := by simp [World.cell?, hh4]
    have t2 : w3.cell? ⟨w.heap.size, 2, none⟩ = some (.int .i64 0) := by simp [World.cell?, hh4]
    have g0 : w3.frozen? ⟨w.heap.size, 0, none⟩ = false := by simp [World.frozen?, hh4]
    have g1 : w3.frozen? ⟨w.heap.size, 1, none⟩ = false := by simp [World.frozen?, hh4]
    have g2 : w3.frozen? ⟨w.heap.size, 2, none⟩ = false := by simp [World.frozen?, hh4]
    have HB3 : Hid (Below w.heap.size w w3) := HBq.out.trans (hb3.mono HBq.out.size)
    rw [← hw3]
    clear hw3 hb3 hh3 hh4 hsq
    go_wp2_with fail
    refine bodyPost_ret (res_word _ w.heap.size _ ⟨#[]⟩ x.l ((x.c : Int) + (x.t.size : Int)) rfl ?_ ?_ ?_) rfl ?_
    · exact cell_setd2 (cell_setd2 (cell_set_same _ t0) (by simp)) (by simp)
    · exact cell_setd2 (cell_set_same _ (cell_setd2 t1 (by simp))) (by simp)
    · exact cell_set_same _ (cell_setd2 (cell_setd2 t2 (by simp)) (by simp))
    · exact ⟨by simp, (((HB3.out.setCell (Nat.le_refl _) _).setCell (Nat.le_refl _) _).setCell (Nat.le_refl _) _)⟩
theorem is_eq (a s : ByteArray) : (a.toList == s.toList) = decide (a = s) := by
  rw [str_beq]
  by_cases h : a = s
  · subst h; simp
  · rw [decide_eq_false h, beq_eq_false_iff_ne]
    intro e
    apply h
    cases a; cases s
    simp at e
    simp [e]
set_option maxHeartbeats 800000 in
set_option maxRecDepth 20000 in
theorem is_any {ok : Nat → Prop} {rb i : Nat} {v : Value} {ws : List Wrd} {w : World} (h : Rdr ok rb i v ws w) (s : ByteArray) (q : Bool) (hq : decide ((Pr.wd ws i).t = s) = q) :
    Calls Tryz.prog 84 #[.pointer (some ⟨rb, 0, none⟩), .string s] w fun e w' => e = .returned (.bool q) ∧ Below w.heap.size w w' := by
  have HW := Lib.hid (word_any h _ rfl)
  rw [← is_eq] at hq
  clear h
  generalize Pr.wd ws i = x at HW hq
  have hf : ∀ w, Sem.run Tryz.prog (Instr.field 167 (.agg #[.string x.t, .int .i64 x.l, .int .i64 x.c]) 0) w = .ok (.string x.t) w := fun w => by kernel_rfl
  go_enter Tryz.func84, Tryz.ntmps84
  go_wp2_with fail
  refine HW.out.mono ?_
  rintro e w1 ⟨rfl, hb1⟩
  have HB1 := Lib.hid hb1
  clear hb1
  go_wp2_with fail
  go_ret
  exact ⟨by first | rfl | (rw [hq]; rfl), HB1.out⟩
end Go.Proofs.YtlamhpiiikcpiaaGreatDoor
/-
  Walks over package rules: must; keyOf; names; slices.Index.
-/
namespace Go.Proofs.YtlamhpiiikcpiaaGreatDoor
open Go.RowKit Go.Shelf Go.Lib Go.Sort
set_option linter.unusedVariables false
set_option linter.unusedSectionVars false
set_option linter.unusedSimpArgs false
/-- A fault, at a word. -/
abbrev faultV (c : Int) (q : Wrd) : Value := .iface 169 (.agg #[.int .i64 c, .string q.t, .int .i64 q.l, .int .i64 q.c])
set_option maxHeartbeats 800000 in
set_option maxRecDepth 20000 in
theorem pmust_bad {ok : Nat → Prop} {rb i : Nat} {v : Value} {ws : List Wrd} {w : World} (h : Rdr ok rb i v ws w) (c : Int) (q : Wrd) (hq : Pr.wd ws i = q) :
    Calls Tryz.prog 50 #[.pointer (some ⟨rb, 0, none⟩), .bool false, .int .i64 c] w fun e w' => e = .panicked [{ v := faultV c q, recovered := false }] ∧ Below w.heap.size w w' := by
  have HW := Lib.hid (word_any h _ hq)
  clear h hq
  go_enter Tryz.func50, Tryz.ntmps50
  go_wp2_with fail
  refine HW.out.mono ?_
  rintro e w1 ⟨rfl, hb1⟩
  have HB1 := Lib.hid hb1
  clear hb1
  go_wp2_with fail
  exact ⟨rfl, rfl, HB1.out.alloc HB1.out.size _⟩
set_option maxHeartbeats 800000 in
set_option maxRecDepth 20000 in
theorem pmust_ok {ok : Nat → Prop} {rb i : Nat} {v : Value} {ws : List Wrd} {w : World} (h : Rdr ok rb i v ws w) (c : Int) (q : Wrd) (hq : Pr.wd ws i = q) (hi : i ≤ 4000000) :
    Calls Tryz.prog 50 #[.pointer (some ⟨rb, 0, none⟩), .bool true, .int .i64 c] w fun e w' => e = .returned (.string q.t) ∧ Rdr ok rb (i + 1) v ws w' ∧ But (fun b => b = rb) w w' := by
  have HW := Lib.hid (word_any h _ hq)
  have H := Lib.hid h
  have hl := h.lt
  have hw1 : IntKind.i64.wrap ((i : Int) + 1) = (i : Int) + 1 := IntWalk.i64_in _ (by omega)
  clear h hq
  go_enter Tryz.func50, Tryz.ntmps50
  go_wp2_with fail
  refine HW.out.mono ?_
  rintro e w1 ⟨rfl, hb1⟩
  obtain ⟨W2, hW2⟩ : ∃ W2, W2 = w1.alloc (.cells #[.string q.t, .int .i64 q.l, .int .i64 q.c] 167) := ⟨_, rfl⟩
  have hb2 : Below w.heap.size w W2 := by rw [hW2]; exact hb1.alloc hb1.size _
  have hh2 : W2.heap[w1.heap.size]? = some (.cells #[.string q.t, .int .i64 q.l, .int .i64 q.c] 167 (0, 0)) := by rw [hW2]; exact heap_alloc_new _ _
  have h2 := H.out.below hb2
  have c1 := h2.c1
  have f1 := h2.f1
  have hne : rb ≠ w1.heap.size := by have := hb1.size; omega
  have y0 : (W2.setCell ⟨rb, 1, none⟩ (.int .i64 ((i : Int) + 1))).cell? ⟨w1.heap.size, 0, none⟩ = some (.string q.t) := cell_setd hne (by simp [World.cell?, hh2])
  have H2 := Lib.hid h2
  have HB2 := Lib.hid hb2
  have HW2 := Lib.hid hW2
  clear hb1 hW2 hb2 hh2 h2
  go_upto_region 2 with fail
  rw [← HW2.out]
  go_wp2_with fail
  go_ret
  have hst := H2.out.step (i + 1)
  have e1 : ((i + 1 : Nat) : Int) = (i : Int) + 1 := by omega
  rw [e1] at hst
  exact ⟨rfl, hst.1, (But.below HB2.out).trans hst.2⟩
theorem res_keyOf (w : World) (b : Nat) (tmps : Array Value) (p : Int) (m : ByteArray) (h2 : tmps.getD 2 undef = .pointer (some ⟨b, 0, none⟩)) (h0 : w.cell? ⟨b, 0, none⟩ = some (.int .i64 p)) (h1 : w.cell? ⟨b, 1, none⟩ = some (.string m)) :
    (results Tryz.f39 tmps).run Tryz.prog w = .ok (.agg #[.int .i64 p, .string m]) w := by
  rw [Array.getD_eq_getD_getElem?] at h2
  simp [results, Tryz.results39, h2, loadVar, asAddr, go_sem, Tryz.isAgg97, Tryz.sizeOf97, h0, h1]
set_option maxHeartbeats 800000 in
set_option maxRecDepth 20000 in
theorem keyOf_any (x : RC) (w : World) :
    Calls Tryz.prog 39 #[.agg #[.int .i64 x.p, .string x.m, .int .i64 x.k, .slice x.a x.n x.c]] w fun e w' => e = .returned (.agg #[.int .i64 x.p, .string x.m]) ∧ Below w.heap.size w w' := by
  go_enter Tryz.func39, Tryz.ntmps39
  go_wp2_with fail
  refine bodyPost_ret (res_keyOf _ (w.heap.size + 1) _ x.p x.m rfl ?_ ?_) rfl ?_
  · simp [go_sem]
  · simp [go_sem]
  · exact ⟨rfl, ((Below.refl _ _).alloc (Nat.le_refl _) _).alloc (by simp) _⟩
/-- The kinds' names. -/
def Pr.names : List ByteArray := [⟨#[]⟩, ⟨#[100, 114, 111, 112]⟩, ⟨#[100, 101, 108, 105, 118, 101, 114]⟩, ⟨#[97, 108, 108]⟩, ⟨#[97, 110, 121]⟩]
set_option maxHeartbeats 800000 in
set_option maxRecDepth 20000 in
theorem names_any (w : World) : Calls Tryz.prog 106 #[] w fun e w' => e = .returned (.slice (some ⟨w.heap.size, 0, none⟩) 5 5) ∧ RdsS w' (.slice (some ⟨w.heap.size, 0, none⟩) 5 5) Pr.names ∧ Below w.heap.size w w' := by
  obtain ⟨W2, hW2⟩ : ∃ W2, W2 = w.alloc (.cells #[.string ⟨#[]⟩, .string ⟨#[100, 114, 111, 112]⟩, .string ⟨#[100, 101, 108, 105, 118, 101, 114]⟩, .string ⟨#[97, 108, 108]⟩, .string ⟨#[97, 110, 121]⟩] 9) := ⟨_, rfl⟩
  go_enter Tryz.func106, Tryz.ntmps106
  go_wp2_with fail
  rw [← hW2]
  go_ret
  refine ⟨rfl, ?_, by rw [hW2]; exact (Below.refl _ _).alloc (Nat.le_refl _) _⟩
  have hh : W2.heap[w.heap.size]? = some (.cells #[.string ⟨#[]⟩, .string ⟨#[100, 114, 111, 112]⟩, .string ⟨#[100, 101, 108, 105, 118, 101, 114]⟩, .string ⟨#[97, 108, 108]⟩, .string ⟨#[97, 110, 121]⟩] 9 (0, 0)) := by rw [hW2]; exact heap_alloc_new _ _
  exact rdsS_lit (l := Pr.names) hh (by decide)
/-- The first place at which a text stands; -1 where it stands nowhere. -/
def Pr.idx (l : List ByteArray) (s : ByteArray) : Int := match l.findIdx? (fun x => decide (s = x)) with | some j => j | none => -1
set_option maxHeartbeats 800000 in
set_option maxRecDepth 20000 in
theorem Index_any (l : List ByteArray) (s : ByteArray) (v1 : Value) (w : World) (h1 : RdsS w v1 l) (hm : l.length ≤ 1000) :
    Calls Tryz.prog 115 #[v1, .string s] w fun e w' => e = .returned (.int .i64 (Pr.idx l s)) ∧ ∃ k, w' = w.drewN k := by
  obtain ⟨a1, n1, c1, rfl, hl1, hm1, hc1⟩ := rdsS_form h1
  have HL1 := Lib.hid hl1
  have HC1 := Lib.hid hc1
  have hn : n1 ≤ 1000 := by omega
  clear h1 hl1 hc1 hm1
  go_enter Tryz.func115, Tryz.ntmps115
  go_wp2_with fail
  go_loopw [8] (fun k wr => ∃ n : Nat, n ≤ n1 ∧ k = .int .i64 n ∧ (∃ q, wr = w.drewN q) ∧ Hid (∀ j (h : j < l.length), j < n → ¬ s = l[j])) (fun k _ => n1 - (intOf k).toNat)
  case atStart => exact ⟨0, Nat.zero_le _, rfl, ⟨0, rfl⟩, fun j _ h => absurd h (Nat.not_lt_zero _)⟩
  case round =>
    obtain ⟨n, hnn, rfl, ⟨q, rfl⟩, HE⟩ := hrel
    by_cases hlt : n < n1
    · have q1 : n < l.length := by rw [← HL1.out]; exact hlt
      obtain ⟨b1, o1, rfl, _, hcell1⟩ := HC1.out n q1
      have hi0 : (0 : Int) ≤ (n : Int) := by omega
      have hi1 : (n : Int) < (n1 : Int) := by omega
      by_cases he : s = l[n]
      · have hne : (s.toList == l[n].toList) = true := by rw [← he]; simp
        have hF : Hid (Pr.idx l s = (n : Int)) := by
          show Pr.idx l s = _
          unfold Pr.idx
          rw [List.findIdx?_eq_some_iff_getElem.2 ⟨q1, by simpa using he, fun j hj => by simpa using HE.out j (by omega) hj⟩]
        clear he
        go_wp2_with fail
        go_ret
        exact ⟨by rw [hF.out]; rfl, _, rfl⟩
      · have hne : (s.toList == l[n].toList) = false := by rw [is_eq]; simpa using he
        have HE2 : Hid (∀ j (h : j < l.length), j < n + 1 → ¬ s = l[j]) := fun j h hj => by
          by_cases hjn : j = n
          · subst hjn; exact he
          · exact HE.out j h (by omega)
        clear he
        go_wp2_with fail
        go_roundw
        case rel => exact ⟨n + 1, by omega, by go_num, ⟨_, rfl⟩, HE2⟩
        case measure => simp [intOf]; omega
    · have hF : Hid (Pr.idx l s = -1) := by
        show Pr.idx l s = _
        unfold Pr.idx
        rw [List.findIdx?_eq_none_iff.2 (fun x hx => by
          obtain ⟨j, hj, rfl⟩ := List.getElem_of_mem hx
          simpa using HE.out j hj (by have := HL1.out; omega))]
      go_wp2_with fail
      go_ret
      exact ⟨by rw [hF.out]; rfl, _, rfl⟩
end Go.Proofs.YtlamhpiiikcpiaaGreatDoor
/-
  Walks over the reference of layer 1: both.
-/
namespace Go.Proofs.YtlamhpiiikcpiaaGreatDoor
open Go.RowKit
/-- Bytes as values. -/
abbrev bvs (l : List UInt8) : List Value := l.map fun c => Value.int .u8 (c.toNat : Int)
end Go.Proofs.YtlamhpiiikcpiaaGreatDoor
/-
  Walks over the reference of layer 1: turned, cut.
-/
namespace Go.Proofs.YtlamhpiiikcpiaaGreatDoor
open Go.RowKit
end Go.Proofs.YtlamhpiiikcpiaaGreatDoor
/-
  Walks over the reference of layer 1: Texts, Meet, Inside, Has, Cut.
-/
namespace Go.Proofs.YtlamhpiiikcpiaaGreatDoor
open Go.RowKit
theorem Texts_empty (a1 a2 : Option Addr) (c1 c2 : Nat) (w : World) :
    Calls Tryz.prog 55 #[.slice a1 0 c1, .slice a2 0 c2] w fun e w' => e = .returned (.bool true) ∧ ∃ k, w' = w.drewN k := by
  go_enter Tryz.func55, Tryz.ntmps55
  go_wp2_with fail
  go_loop [5] (fun k => k = .int .i64 0) (fun k => 0)
  case atStart => rfl
  case round =>
    subst hrel
    go_wp2_with fail
    go_ret
    exact ⟨rfl, 0, rfl⟩
set_option maxHeartbeats 400000 in
set_option maxRecDepth 20000 in
theorem Texts_rows (ss : List ByteArray) (b1 o1 c1 b2 o2 c2 len : Nat) (w : World) (hl : Hid (len = ss.length)) (hlm : len ≤ 9223372036854775807)
    (hc1 : Hid (∀ i (h : i < ss.length), w.cell? ⟨b1, o1 + i, none⟩ = some (.string ss[i])))
    (hc2 : Hid (∀ i (h : i < ss.length), w.cell? ⟨b2, o2 + i, none⟩ = some (.string ss[i]))) :
    Calls Tryz.prog 55 #[.slice (some ⟨b1, o1, none⟩) len c1, .slice (some ⟨b2, o2, none⟩) len c2] w fun e w' => e = .returned (.bool true) ∧ ∃ k, w' = w.drewN k := by
  go_enter Tryz.func55, Tryz.ntmps55
  go_wp2_with fail
  go_loopw [5] (fun k wr => ∃ n : Nat, n ≤ len ∧ k = .int .i64 n ∧ ∃ q, wr = w.drewN q) (fun k _ => len - (intOf k).toNat)
  case atStart => exact ⟨0, Nat.zero_le _, rfl, 0, rfl⟩
  case round =>
    obtain ⟨n, hn, rfl, q, rfl⟩ := hrel
    by_cases hlt : n < len
    · have hn' : n < ss.length := by rw [← hl.out]; omega
      have hcell1 := hc1.out n hn'
      have hcell2 := hc2.out n hn'
      have hi0 : (0 : Int) ≤ (n : Int) := by omega
      have hi1 : (n : Int) < (len : Int) := by omega
      have he : (ss[n].toList != ss[n].toList) = false := by simp
      go_wp2_with fail
      go_quiet (fail)
      go_wp2_with fail
      go_roundw
      case rel => exact ⟨n + 1, by omega, by go_num, _, rfl⟩
      case measure => simp [intOf]; omega
    · go_wp2_with fail
      go_ret
      exact ⟨rfl, _, rfl⟩
theorem Texts_same {ss : List ByteArray} {v1 v2 : Value} {w : World} (h1 : RdsS w v1 ss) (h2 : RdsS w v2 ss) :
    Calls Tryz.prog 55 #[v1, v2] w fun e w' => e = .returned (.bool true) ∧ ∃ k, w' = w.drewN k := by
  rcases rdsS_cases h1 with ⟨_, _, rfl, rfl⟩ | ⟨b1, o1, l1, c1, rfl, hl1, hc1, hm1, hb1, hx1⟩
  · rcases rdsS_cases h2 with ⟨_, _, rfl, _⟩ | ⟨b2, o2, l2, c2, rfl, hl2, hc2, hm2, hb2, hx2⟩
    · exact Texts_empty _ _ _ _ w
    · have : l2 = 0 := by simpa using hl2
      subst this
      exact Texts_empty _ _ _ _ w
  · rcases rdsS_cases h2 with ⟨_, _, rfl, rfl⟩ | ⟨b2, o2, l2, c2, rfl, hl2, hc2, hm2, hb2, hx2⟩
    · have : l1 = 0 := by simpa using hl1
      subst this
      exact Texts_empty _ _ _ _ w
    · obtain rfl : l1 = l2 := by omega
      unfold maxLen at hm1
      exact Texts_rows ss b1 o1 c1 b2 o2 c2 l1 w hl1 (by omega) hx1 hx2
end Go.Proofs.YtlamhpiiikcpiaaGreatDoor
/-
  What the functions of package cube and of its reference answer, in one form each; alive; the laws CubeCuts, CubeMeets and CubeOrder, walked.
-/
namespace Go.Proofs.YtlamhpiiikcpiaaGreatDoor
open Go.RowKit
namespace Cb
/-- Meet's answer. -/
def MeetS (a b : List UInt8) : List UInt8 × Bool × Int :=
  if wrong [a, b] = 0 then (match meet a b with | some m => (m, true, 0) | none => ([], false, 0)) else ([], false, wrong [a, b])
/-- Inside's answer. -/
def InsideS (a b : List UInt8) : Bool × Int :=
  if wrong [a, b] = 0 then (match meet a b with | some m => (m == a, 0) | none => (false, 0)) else (false, wrong [a, b])
/-- Has's answer. -/
def HasS (c h : List UInt8) : Bool × Int :=
  if isCube c && isHead h then (if wrong [c, h] = 0 then ((meet c h).isSome, 0) else (false, wrong [c, h])) else (false, 10)
end Cb
theorem Has_any (a b : ByteArray) (w : World) (ha : a.size ≤ maxLen) (hb : b.size ≤ maxLen) (S : Bool × Int) (hS : Cb.HasS a.data.toList b.data.toList = S) :
    Calls Tryz.prog 34 #[.string a, .string b] w fun e w' => e = .returned (.tuple #[.bool S.1, .int .i64 S.2]) ∧ Below w.heap.size w w' := by
  subst hS
  cases hc : Cb.isCube a.data.toList with
  | false => exact (Has_nocube a b w ha hc).mono fun e w' h => ⟨by rw [h.1]; unfold Cb.HasS; rw [hc]; rfl, h.2⟩
  | true =>
    cases hh : Cb.isHead b.data.toList with
    | false => exact (Has_nohead a b w ha hb hc hh).mono fun e w' h => ⟨by rw [h.1]; unfold Cb.HasS; rw [hc, hh]; rfl, h.2⟩
    | true =>
      by_cases hw : Cb.wrong [a.data.toList, b.data.toList] = 0
      · cases hm : Cb.meet a.data.toList b.data.toList with
        | none => exact (Has_no a b w ha hb hh hw hm).mono fun e w' h => ⟨by rw [h.1]; unfold Cb.HasS; rw [hc, hh, hm]; simp [hw], h.2⟩
        | some m => exact (Has_yes a b (bs m) w ha hb hh hw hm).mono fun e w' h => ⟨by rw [h.1]; unfold Cb.HasS; rw [hc, hh, hm]; simp [hw], h.2⟩
      · exact (Has_bad a b w ha hb hc hh hw).mono fun e w' h => ⟨by rw [h.1]; unfold Cb.HasS; rw [hc, hh]; simp [hw], h.2⟩
/-- Both Cuts, in one form. -/
def CutPost (fnum : Nat) : Prop := ∀ (a b : ByteArray) (w : World), a.size ≤ maxLen → b.size ≤ maxLen →
    Calls Tryz.prog fnum #[.string a, .string b] w fun e w' => ∃ v, e = .returned (.tuple #[v, .int .i64 (Cb.wrong [a.data.toList, b.data.toList])]) ∧
      RdsS w' v ((if Cb.wrong [a.data.toList, b.data.toList] = 0 then Cb.cut a.data.toList b.data.toList else []).map bs) ∧ Below w.heap.size w w'
end Go.Proofs.YtlamhpiiikcpiaaGreatDoor
/-
  Plain laws and walks: Check, Free, First, Every of package cube.
-/
namespace Go.Proofs.YtlamhpiiikcpiaaGreatDoor
open Go.RowKit
namespace Cb
/-- A byte in the place of another one. -/
def sub1 (c d : UInt8) (b : UInt8) : UInt8 := if b = c then d else b
theorem wrong_one (s : List UInt8) : wrong [s] = if isCube s = true then 0 else 10 := by
  unfold wrong
  cases h : isCube s <;> simp [h]
end Cb
theorem one_rds (w : World) (a : ByteArray) (o : Nat) (ho : o = w.heap.size) (t : TypeId) : RdsS (w.alloc (.cells #[.string a] t)) (.slice (some ⟨o, 0, none⟩) 1 1) [a] := by
  subst ho
  refine rdsS_mk (ss := [a]) (by simp) (by unfold maxLen; simp) (by simp) ?_
  intro i hi
  match i, hi with
  | 0, _ => simp [go_sem]
theorem one_le {a : ByteArray} (ha : a.size ≤ maxLen) : ∀ s ∈ [a], s.size ≤ maxLen := by
  intro s hs
  have : s = a := by simpa using hs
  rw [this]; exact ha
theorem Check_bad (a : ByteArray) (w : World) (ha : a.size ≤ maxLen) (hw : Cb.isCube a.data.toList = false) :
    Calls Tryz.prog 71 #[.string a] w fun e w' => e = .returned (.int .i64 10) ∧ Below w.heap.size w w' := by
  have HW : Hid (Cb.wrong (lb [a]) = 10) := by show Cb.wrong [a.data.toList] = 10; rw [Cb.wrong_one, hw]; rfl
  clear hw
  go_enter_defers Tryz.func71, Tryz.ntmps71
  go_wp2_with fail
  refine (must_bad (ss := [a]) (one_rds _ _ _ (by simp) _) (one_le ha) (by rw [HW.out]; decide)).mono ?_
  rintro e w' ⟨rfl, rfl⟩
  rw [HW.out]
  go_wp2_with fail
  refine door_fault (p := ⟨w.heap.size, 0, none⟩) _ 0 ?_ ?_ ?_ fun W' hB hC => ?_
  · simp; omega
  · simp [go_sem]
  · simp [go_sem]
  · exact ⟨_, by simp [results, Tryz.results71, go_sem, hC], rfl, (((Below.refl _ w).alloc (Nat.le_refl _) _).alloc (by simp) _).trans hB⟩
theorem Check_ok (a : ByteArray) (w : World) (ha : a.size ≤ maxLen) (hw : Cb.isCube a.data.toList = true) :
    Calls Tryz.prog 71 #[.string a] w fun e w' => e = .returned (.int .i64 0) ∧ Below w.heap.size w w' := by
  have HW : Hid (Cb.wrong (lb [a]) = 0) := by show Cb.wrong [a.data.toList] = 0; rw [Cb.wrong_one, hw]; rfl
  clear hw
  go_enter_defers Tryz.func71, Tryz.ntmps71
  go_wp2_with fail
  refine (must_ok (ss := [a]) (one_rds _ _ _ (by simp) _) (one_le ha) HW.out).mono ?_
  rintro e w' ⟨rfl, rfl⟩
  go_wp2_with fail
  have hB := ((Below.refl _ w).alloc (Nat.le_refl _) (.cells #[.int .i64 0] 28)).alloc (by simp) (.cells #[.string a] 9)
  refine door_ret ⟨_, by simp [results, Tryz.results71, go_sem], rfl, hB⟩
theorem Free_bad (a : ByteArray) (w : World) (ha : a.size ≤ maxLen) (hw : Cb.isCube a.data.toList = false) :
    Calls Tryz.prog 33 #[.string a] w fun e w' => e = .returned (.tuple #[.int .i64 0, .int .i64 10]) ∧ Below w.heap.size w w' := by
  have HW : Hid (Cb.wrong (lb [a]) = 10) := by show Cb.wrong [a.data.toList] = 10; rw [Cb.wrong_one, hw]; rfl
  clear hw
  go_enter_defers Tryz.func33, Tryz.ntmps33
  go_wp2_with fail
  refine (must_bad (ss := [a]) (one_rds _ _ _ (by simp) _) (one_le ha) (by rw [HW.out]; decide)).mono ?_
  rintro e w' ⟨rfl, rfl⟩
  rw [HW.out]
  go_wp2_with fail
  refine door_fault (p := ⟨w.heap.size, 0, none⟩) _ 0 ?_ ?_ ?_ fun W' hB hC => ?_
  · simp; omega
  · simp [go_sem]
  · simp [go_sem]
  · exact ⟨_, by simp [results, Tryz.results33, go_sem, hC], rfl, (((Below.refl _ w).alloc (Nat.le_refl _) _).alloc (by simp) _).trans hB⟩
theorem Free_ok (a : ByteArray) (w : World) (ha : a.size ≤ maxLen) (hw : Cb.isCube a.data.toList = true) :
    Calls Tryz.prog 33 #[.string a] w fun e w' => e = .returned (.tuple #[.int .i64 (a.data.toList.count 120 : Nat), .int .i64 0]) ∧ Below w.heap.size w w' := by
  have HW : Hid (Cb.wrong (lb [a]) = 0) := by show Cb.wrong [a.data.toList] = 0; rw [Cb.wrong_one, hw]; rfl
  clear hw
  obtain ⟨N, hN⟩ : ∃ N, N = a.data.toList.count 120 := ⟨_, rfl⟩
  have HCo := Lib.hid (fun W => Tryz.strings_Count_one a 120 W)
  have HN : Hid (Lib.countByte a.data.toList 120 = N) := hN.symm
  rw [HN.out] at HCo
  rw [← hN]
  clear hN
  go_enter_defers Tryz.func33, Tryz.ntmps33
  go_wp2_with fail
  refine (must_ok (ss := [a]) (one_rds _ _ _ (by simp) _) (one_le ha) HW.out).mono ?_
  rintro e w' ⟨rfl, rfl⟩
  go_wp2_with fail
  refine (HCo.out _).mono ?_
  rintro e w' ⟨rfl, rfl⟩
  go_wp2_with fail
  have hB := ((Below.refl _ w).alloc (Nat.le_refl _) (.cells #[.int .i64 0] 28)).alloc (by simp) (.cells #[.string a] 9)
  refine door_ret ⟨_, by simp [results, Tryz.results33, go_sem], rfl, hB⟩
end Go.Proofs.YtlamhpiiikcpiaaGreatDoor
/-
  Walks over package rules: slices.Sort and slices.Compact at a row of texts of the call's own; a line's rule as plain data.
-/
namespace Go.Proofs.YtlamhpiiikcpiaaGreatDoor
open Go.RowKit Go.Shelf Go.Lib Go.Sort
set_option linter.unusedVariables false
set_option linter.unusedSectionVars false
set_option linter.unusedSimpArgs false
theorem ownsRow_putCells {w : World} {g : Nat} {d0 d : Array (List UInt8)} (hH : Holds encStr w g 0 d0) (hs : d.size = d0.size) (q : Nat) (os : Array Obj) :
    Holds encStr (Sort.grow (putRow encStr (Sort.ahead w q) g 0 d) os) g 0 d ∧ But (fun b => b = g) w (Sort.grow (putRow encStr (Sort.ahead w q) g 0 d) os) := by
  have h1 : Holds encStr (putRow encStr (Sort.ahead w q) g 0 d) g 0 d := holds_putRow encStr (Sort.ahead w q) g 0 d0 d hH hs
  have hblk : ∀ (W : World) (os : Array Obj) (k : Nat), k < W.heap.size → (Sort.grow W os).heap[k]? = W.heap[k]? := fun W os k hk => by
    show (W.heap ++ os)[k]? = _
    rw [Array.getElem?_append_left hk]
  have hsz : (putRow encStr (Sort.ahead w q) g 0 d).heap.size = w.heap.size := by rw [size_putRow]; rfl
  refine ⟨fun j hj => ?_, rfl, rfl, rfl, ?_, fun k hk hn => ?_⟩
  · obtain ⟨c1, f1⟩ := h1 j hj
    have hl : g < (putRow encStr (Sort.ahead w q) g 0 d).heap.size := cellLt c1
    exact ⟨(World.cell?_of_block (a := ⟨g, 0 + j, none⟩) (hblk _ os g hl)).trans c1, (World.frozen?_of_block (a := ⟨g, 0 + j, none⟩) (hblk _ os g hl)).trans f1⟩
  · show w.heap.size ≤ ((putRow encStr (Sort.ahead w q) g 0 d).heap ++ os).size
    rw [Array.size_append, hsz]
    omega
  · rw [hblk _ os k (by rw [hsz]; exact hk)]
    show ((w.heap.modify g _))[k]? = _
    rw [Array.getElem?_modify, if_neg (fun e => hn e.symm)]
theorem holds_own {w : World} {base n c : Nat} {ad : Option Addr} {T : List (List UInt8)} (h : w.ownsRow base 9 1 (.slice ad n c) n (T.map fun t => Value.string (Wd.mkB t))) (hn : 0 < n) : ∃ g, ad = some ⟨g, 0, none⟩ ∧ g < w.heap.size ∧ base ≤ g ∧ n ≤ c ∧ c ≤ maxLen ∧ n = T.length ∧ Holds encStr w g 0 T.toArray := by
  have hl := h.1
  rw [List.length_map, Nat.mul_one] at hl
  obtain ⟨g, cp, hgv, hnc, hcm⟩ : ∃ g cp, Value.slice ad n c = .slice (some ⟨g, 0, none⟩) n cp ∧ n ≤ cp ∧ cp ≤ maxLen := by
    rcases h.2 with ⟨h1, h2⟩ | ⟨g, cap, cur, hv, hg, hh, hn', hc, hs, ht⟩
    · omega
    · exact ⟨g, cap, hv, hn', hc⟩
  injection hgv with e1 _ e3
  subst e1 e3
  have hlt := h.lt g rfl
  refine ⟨g, rfl, hlt.2, hlt.1, hnc, hcm, hl.symm, fun j hj => ?_⟩
  have hj' : j < T.length := by simpa using hj
  have hc := h.cellAt j (by omega)
  rw [List.getElem?_map, List.getElem?_eq_getElem hj'] at hc
  refine ⟨?_, h.frozenAt _⟩
  rw [Nat.zero_add, hc]
  simp [hj', Wd.mkB]
theorem rdsS_holds {w : World} {g n c : Nat} {T : List (List UInt8)} (h : Holds encStr w g 0 T.toArray) (hn : T.length = n) (hn0 : 0 < n) (hc : n ≤ c) (hm : c ≤ maxLen) : RdsS w (.slice (some ⟨g, 0, none⟩) n c) (T.map Wd.mkB) := by
  refine .inr ⟨g, 0, c, ?_, ?_, hm, ?_, fun i hi => ?_⟩
  · simp [hn]
  · simp [hn]; omega
  · exact cellLt (h 0 (by simp; omega)).1
  · have hi' : i < T.length := by simpa using hi
    rw [(h i (by simpa using hi')).1]
    simp [hi', Wd.mkB]
theorem sort_own {w : World} {g n c : Nat} {T : List (List UInt8)} (h : Holds encStr w g 0 T.toArray) (hg : g < w.heap.size) (hn : T.length = n) (hm : n ≤ 4611686018427387) :
    Calls Tryz.prog 117 #[.slice (some ⟨g, 0, none⟩) n c] w fun e w' => e = .returned (.tuple #[]) ∧ Holds encStr w' g 0 (T.mergeSort fun x y => decide (x ≤ y)).toArray ∧ But (fun b => b = g) w w' := by
  subst hn
  refine (Tryz.slices_Sort_string g 0 c T w h hg (by omega)).mono ?_
  rintro e w' ⟨rfl, q, os, rfl⟩
  obtain ⟨h1, h2⟩ := ownsRow_putCells h (d := (T.mergeSort fun x y => decide (x ≤ y)).toArray) (by simp) q os
  exact ⟨rfl, h1, h2⟩
theorem compact_own {w : World} {g n c : Nat} {T : List (List UInt8)} (h : Holds encStr w g 0 T.toArray) (hn : T.length = n) (hc : n ≤ c) (hm : c ≤ maxLen) (hk : 0 < (Lib.compact T).length) (hk2 : (Lib.compact T).length ≤ n) :
    Calls Tryz.prog 118 #[.slice (some ⟨g, 0, none⟩) n c] w fun e w' => e = .returned (.slice (some ⟨g, 0, none⟩) (Lib.compact T).length c) ∧ RdsS w' (.slice (some ⟨g, 0, none⟩) (Lib.compact T).length c) ((Lib.compact T).map Wd.mkB) ∧ But (fun b => b = g) w w' := by
  subst hn
  have hml : c ≤ 9223372036854775807 := hm
  refine (Tryz.slices_Compact_string g 0 c T w h (by omega) hc).mono ?_
  rintro e w' ⟨rfl, q, rfl⟩
  obtain ⟨h1, h2⟩ := ownsRow_putCells h (d := (Lib.compact T ++ List.replicate (T.length - (Lib.compact T).length) []).toArray) (by simp; omega) q #[]
  rw [grow_empty] at h1 h2
  refine ⟨rfl, rdsS_holds (fun j hj => ?_) rfl hk (by omega) hm, h2⟩
  have hj' : j < (Lib.compact T).length := by simpa using hj
  obtain ⟨c1, f1⟩ := h1 j (by simp; omega)
  refine ⟨c1.trans ?_, f1⟩
  congr 1
  simp [hj', List.getElem_append_left, show j < (Lib.compact T).length + (T.length - (Lib.compact T).length) by omega]
namespace Pr
open Rp Wd
theorem name_in {ws : List Wrd} {i : Nat} (h : nameB (wd ws i).t.data.toList = true) : i < ws.length := by
  rcases Nat.lt_or_ge i ws.length with h1 | h1
  · exact h1
  · unfold wd at h
    rw [dif_neg (by omega)] at h
    have h2 : nameB [] = true := h
    exact absurd h2 (by decide)
/-- Ports from place i on: their texts, the place behind them; or the place of a word that is no name. -/
def portsAt (ws : List Wrd) (i : Nat) : Except Nat (List (List UInt8) × Nat) :=
  if h : nameB (wd ws i).t.data.toList = true then
    if (wd ws (i + 1)).t = ⟨#[44]⟩ then
      match portsAt ws (i + 2) with
      | .ok r => .ok ((wd ws i).t.data.toList :: r.1, r.2)
      | .error e => .error e
    else .ok ([(wd ws i).t.data.toList], i + 1)
  else .error i
termination_by ws.length - i
decreasing_by have := name_in h; omega
/-- An action from place i on: its kind, its ports, the place behind it; or a fault and its place. -/
def act (ws : List Wrd) (i : Nat) : Except (Int × Nat) (Int × List ByteArray × Nat) :=
  if idx names (wd ws i).t ≤ 0 then .error (51, i)
  else if idx names (wd ws i).t < 3 then .ok (idx names (wd ws i).t, [], i + 1)
  else if ¬ (wd ws (i + 1)).t = ⟨#[40]⟩ then .error (51, i + 1)
  else match portsAt ws (i + 2) with
    | .error j => .error (31, j)
    | .ok (T, j) =>
      if ¬ (wd ws j).t = ⟨#[41]⟩ then .error (51, j)
      else if 64 < (T.foldl putL []).length then .error (3, j)
      else .ok (idx names (wd ws i).t, (T.foldl putL []).map mkB, j + 1)
/-- A line's rule; or a fault and its place. -/
def rule (ws : List Wrd) (width : Int) : Except (Int × Nat) Rl :=
  if ¬ (wd ws 0).t = ⟨#[114, 117, 108, 101]⟩ then .error (50, 0)
  else if ¬ (numE (wd ws 1).t.data.toList).2 = 0 then .error (32, 1)
  else if Cb.isCube (wd ws 2).t.data.toList = false then .error (10, 2)
  else if ¬ ((wd ws 2).t.size : Int) = width then .error (11, 2)
  else match act ws 3 with
    | .error e => .error e
    | .ok (k, P, j) => if j < ws.length then .error (50, j) else .ok ⟨(numE (wd ws 1).t.data.toList).1, (wd ws 2).t, k, P⟩
theorem portsAt_len : ∀ (n : Nat) (ws : List Wrd) (i : Nat) (T : List (List UInt8)) (j : Nat), ws.length - i ≤ n → portsAt ws i = .ok (T, j) → 0 < T.length ∧ i + T.length ≤ j ∧ j ≤ ws.length
  | n, ws, i, T, j, hn, h => by
    rw [portsAt] at h
    split at h
    · rename_i hb
      have hi := name_in hb
      split at h
      · cases n with
        | zero => omega
        | succ n =>
          split at h
          · rename_i r hr
            injection h with h
            have h1 := congrArg Prod.fst h
            have h2 := congrArg Prod.snd h
            simp only at h1 h2
            subst h1 h2
            have := portsAt_len n ws (i + 2) r.1 r.2 (by omega) hr
            simp
            omega
          · cases h
      · injection h with h
        have h1 := congrArg Prod.fst h
        have h2 := congrArg Prod.snd h
        simp only at h1 h2
        subst h1 h2
        simp
        omega
    · cases h
end Pr
end Go.Proofs.YtlamhpiiikcpiaaGreatDoor
