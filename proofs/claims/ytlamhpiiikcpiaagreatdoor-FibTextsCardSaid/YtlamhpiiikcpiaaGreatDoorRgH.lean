/-
  Walks over package rules: a reader's action.
-/
import Derived.Test.YtlamhpiiikcpiaaGreatDoorRgG
import Derived.Test.YtlamhpiiikcpiaaGreatDoorRgC
import Derived.Deep.AppendLies
import Derived.Test.YtlamhpiiikcpiaaGreatDoorRgD
import Derived.RegionTactic
import Derived.Defers
import Derived.Recover
import Derived.WideLaws
import Derived.Laws.Pointers
namespace Go.Proofs.YtlamhpiiikcpiaaGreatDoor
open Go.RowKit Go.Shelf Go.Lib Go.Sort
set_option linter.unusedVariables false
set_option linter.unusedSectionVars false
set_option linter.unusedSimpArgs false
attribute [local go_sem] Oper.semAt_some
theorem but_fresh {S T : Nat → Prop} {w a b : World} (h : But S w a) (k : But T a b) (hT : ∀ x, T x → w.heap.size ≤ x) : But S w b :=
  ⟨k.os.trans h.os, k.tape.trans h.tape, k.output.trans h.output, Nat.le_trans h.size k.size, fun j hj hn => (k.block j (Nat.lt_of_lt_of_le hj h.size) (fun e => Nat.not_lt_of_le (hT j e) hj)).trans (h.block j hj hn)⟩
/-- What reading an action leaves. -/
def ActPost (ok : Nat → Prop) (rb i : Nat) (v : Value) (ws : List Wrd) (w : World) (e : Ending) (w' : World) : Prop :=
  match Pr.act ws i with
  | .ok (k, P, j) => ∃ a n c, e = .returned (.agg #[.int .i64 k, .slice a n c]) ∧ RdsO (fun b => w.heap.size ≤ b) w' (.slice a n c) P ∧ Rdr ok rb j v ws w' ∧ But (fun b => b = rb) w w'
  | .error (c, j) => e = .panicked [{ v := faultV c (Pr.wd ws j), recovered := false }] ∧ But (fun b => b = rb) w w'
theorem res_act (w : World) (b : Nat) (tmps : Array Value) (k : Int) (a : Option Addr) (n c : Nat) (h2 : tmps.getD 2 undef = .pointer (some ⟨b, 0, none⟩)) (h0 : w.cell? ⟨b, 0, none⟩ = some (.int .i64 k)) (h1 : w.cell? ⟨b, 1, none⟩ = some (.slice a n c)) :
    (results Tryz.f87 tmps).run Tryz.prog w = .ok (.agg #[.int .i64 k, .slice a n c]) w := by
  rw [Array.getD_eq_getD_getElem?] at h2
  simp [results, Tryz.results87, h2, loadVar, asAddr, go_sem, Tryz.isAgg45, Tryz.sizeOf45, h0, h1]
theorem idx_pos {s : ByteArray} (h : 0 < Pr.idx Pr.names s) : ¬ s = ⟨#[]⟩ := by
  intro e
  subst e
  revert h
  decide
theorem idx_le (s : ByteArray) : Pr.idx Pr.names s ≤ 4 ∧ -1 ≤ Pr.idx Pr.names s := by
  unfold Pr.idx
  split
  · rename_i j hj
    have := (List.findIdx?_eq_some_iff_getElem.1 hj).1
    have h5 : Pr.names.length = 5 := rfl
    omega
  · omega
theorem word_field (x : Wrd) (w : World) : Sem.run Tryz.prog (Instr.field 167 (.agg #[.string x.t, .int .i64 x.l, .int .i64 x.c]) 0) w = .ok (.string x.t) w := by kernel_rfl
theorem ownsRow_butS' {S : Nat → Prop} {w w' : World} {base : Nat} {e : TypeId} {k n : Nat} {v : Value} {xs : List Value} (h : w.ownsRow base e k v n xs) (hb : But S w w') (hs : ∀ b, v.ownBlock = some b → ¬ S b) : w'.ownsRow base e k v n xs := by
  obtain ⟨h1, h2⟩ := h
  refine ⟨h1, h2.imp id ?_⟩
  rintro ⟨g, cap, cur, hv, hg, hh, r⟩
  exact ⟨g, cap, cur, hv, hg, (hb.block g ((Array.getElem?_eq_some_iff.1 hh).1) (hs g (by rw [hv]; rfl))).trans hh, r⟩
/-- The action's block ab and the result's block N. -/
structure AbS (w : World) (ab N : Nat) (k : Int) (u : Value) : Prop where
  c0 : w.cell? ⟨ab, 0, none⟩ = some (.int .i64 k)
  c1 : w.cell? ⟨ab, 1, none⟩ = some u
  f1 : w.frozen? ⟨ab, 1, none⟩ = false
  nb : w.heap[N]? = some (.cells #[.int .i64 0, .slice none 0 0] 45 (0, 0))
theorem AbS.but {S : Nat → Prop} {w w' : World} {ab N : Nat} {k : Int} {u : Value} (h : AbS w ab N k u) (hb : But S w w') (h1 : ¬ S ab) (h2 : ¬ S N) : AbS w' ab N k u :=
  ⟨(hb.cell (p := ⟨ab, 0, none⟩) (cellLt h.c0) h1).trans h.c0, (hb.cell (p := ⟨ab, 1, none⟩) (cellLt h.c1) h1).trans h.c1, (hb.frozen (p := ⟨ab, 1, none⟩) (cellLt h.c1) h1).trans h.f1, (hb.block N (by rcases Nat.lt_or_ge N w.heap.size with e | e; exact e; have := h.nb; rw [Array.getElem?_eq_none e] at this; cases this) h2).trans h.nb⟩
theorem AbS.below {w w' : World} {ab N : Nat} {k : Int} {u : Value} (h : AbS w ab N k u) (hb : Below w.heap.size w w') : AbS w' ab N k u := h.but (S := fun _ => False) (But.below hb) (fun h => h) (fun h => h)
theorem AbS.set {w : World} {ab N : Nat} {k : Int} {u : Value} (h : AbS w ab N k u) (hne : N ≠ ab) (u' : Value) : AbS (w.setCell ⟨ab, 1, none⟩ u') ab N k u' ∧ But (fun b => b = ab) w (w.setCell ⟨ab, 1, none⟩ u') := by
  have hb : But (fun b => b = ab) w (w.setCell ⟨ab, 1, none⟩ u') := But.set (S := fun b => b = ab) (a := ⟨ab, 1, none⟩) rfl _
  exact ⟨⟨(cell_set_other _ (by simp)).trans h.c0, cell_set_same _ h.c1, by rw [World.frozen?_setCell]; exact h.f1, (hb.block N (by rcases Nat.lt_or_ge N w.heap.size with e | e; exact e; have := h.nb; rw [Array.getElem?_eq_none e] at this; cases this) hne).trans h.nb⟩, hb⟩
theorem compact_le (T : List (List UInt8)) : (Lib.compact T).length ≤ T.length := by
  unfold Lib.compact Lib.compactUpTo
  rw [List.length_map]
  exact Nat.le_trans (List.length_filter_le _ _) (by simp)
theorem compact_pos (T : List (List UInt8)) (h : 0 < T.length) : 0 < (Lib.compact (T.mergeSort fun x y => decide (x ≤ y))).length := by
  rw [Pr.sort_compact]
  obtain ⟨_, h2⟩ := Pr.foldl_put_spec T [] List.Pairwise.nil
  have hm : T[0] ∈ T.foldl Pr.putL [] := (h2 _).2 (.inr (List.getElem_mem h))
  exact List.length_pos_of_mem hm
/-- Ports ahead of what is still to come. -/
def prep (T : List (List UInt8)) : Except Nat (List (List UInt8) × Nat) → Except Nat (List (List UInt8) × Nat)
  | .ok r => .ok (T ++ r.1, r.2)
  | .error e => .error e
theorem ports_bad' {ws : List Wrd} {p : Nat} (h : Rp.nameB (Pr.wd ws p).t.data.toList = false) : Pr.portsAt ws p = .error p := by
  rw [Pr.portsAt, dif_neg (by rw [h]; simp)]
theorem ports_last {ws : List Wrd} {p : Nat} (h : Rp.nameB (Pr.wd ws p).t.data.toList = true) (h2 : ¬ (Pr.wd ws (p + 1)).t = ⟨#[44]⟩) : Pr.portsAt ws p = .ok ([(Pr.wd ws p).t.data.toList], p + 1) := by
  rw [Pr.portsAt, dif_pos h, if_neg h2]
theorem ports_more {ws : List Wrd} {p : Nat} (T : List (List UInt8)) (h : Rp.nameB (Pr.wd ws p).t.data.toList = true) (h2 : (Pr.wd ws (p + 1)).t = ⟨#[44]⟩) : prep T (Pr.portsAt ws p) = prep (T ++ [(Pr.wd ws p).t.data.toList]) (Pr.portsAt ws (p + 2)) := by
  rw [Pr.portsAt, dif_pos h, if_pos h2]
  cases Pr.portsAt ws (p + 2) with
  | ok r => simp [prep]
  | error e => rfl
set_option maxHeartbeats 6400000 in
set_option maxRecDepth 20000 in
theorem action_rd {ok : Nat → Prop} {rb i : Nat} {v : Value} {ws : List Wrd} {w : World} (h : Rdr ok rb i v ws w) (hok : ∀ b, ok b → b < w.heap.size) (hi : i ≤ 10) (hz : ∀ x ∈ ws, x.t.size ≤ 3000000) :
    Calls Tryz.prog 87 #[.pointer (some ⟨rb, 0, none⟩)] w (ActPost ok rb i v ws w) := by
  obtain ⟨W0, hW0⟩ : ∃ W0, W0 = w.alloc (.cells #[.int .i64 0, .slice none 0 0] 45) := ⟨_, rfl⟩
  have hb0 : Below w.heap.size w W0 := by rw [hW0]; exact (Below.refl _ _).alloc (Nat.le_refl _) _
  have hh0 : W0.heap[w.heap.size]? = some (.cells #[.int .i64 0, .slice none 0 0] 45 (0, 0)) := by rw [hW0]; exact heap_alloc_new _ _
  have hs0 : W0.heap.size = w.heap.size + 1 := by rw [hW0]; simp
  have hlt := h.lt
  have hfew := h.few
  have h0 := h.below hb0
  have H0 := Lib.hid h0
  have HB0 := Lib.hid hb0
  have HH0 := Lib.hid hh0
  have HS0 := Lib.hid hs0
  have HW0 := Lib.hid hW0
  have HOk := Lib.hid hok
  have HZ := Lib.hid hz
  have hwz : ∀ j, (Pr.wd ws j).t.size ≤ 3000000 := fun j => by
    unfold Pr.wd
    split
    · exact hz _ (List.getElem_mem _)
    · exact Nat.zero_le _
  have HWz := Lib.hid hwz
  obtain ⟨x, hx⟩ : ∃ x, Pr.wd ws i = x := ⟨_, rfl⟩
  have HX := Lib.hid hx
  obtain ⟨k, hk⟩ : ∃ k, Pr.idx Pr.names x.t = k := ⟨_, rfl⟩
  have HK := Lib.hid hk
  have hf := word_field
  clear h hb0 hh0 hs0 h0 hW0 hok hz hwz
  go_enter Tryz.func87, Tryz.ntmps87
  go_upto_region 1 with fail
  rw [← HW0.out]
  clear HW0
  go_wp2_with fail
  refine (names_any _).mono ?_
  rintro e w1 ⟨rfl, hr1, hb1⟩
  have hW1 := word_any (H0.out.below hb1) x hx
  have HW1 := Lib.hid hW1
  have HR1 := Lib.hid hr1
  have HB1 := Lib.hid hb1
  clear hr1 hb1 hW1 hx
  go_wp2_with fail
  refine HW1.out.mono ?_
  rintro e w2 ⟨rfl, hb2⟩
  have hI := Index_any Pr.names x.t _ w2 (HR1.out.below hb2) (by decide)
  rw [hk] at hI
  have HI := Lib.hid hI
  have HB2 := Lib.hid (HB1.out.trans (hb2.mono HB1.out.size))
  clear hI hb2 hk
  go_wp2_with fail
  refine HI.out.mono ?_
  rintro e w3 ⟨rfl, q3, hw3⟩
  have hb3 : Below W0.heap.size W0 w3 := by rw [hw3]; exact below_dN HB2.out q3
  have h3 := H0.out.below hb3
  have HB3 := Lib.hid hb3
  have H3 := Lib.hid h3
  have hk4 : k ≤ 4 ∧ -1 ≤ k := by rw [← HK.out]; exact idx_le x.t
  clear hb3 hw3 h3 HI HW1 HR1
  by_cases hk0 : k ≤ 0
  · have hkz : decide ((0 : Int) < k) = false := by simp; omega
    have HM := Lib.hid (pmust_bad H3.out 51 x HX.out)
    have hP : Pr.act ws i = .error (51, i) := by unfold Pr.act; rw [HX.out, HK.out, if_pos hk0]
    have HP := Lib.hid hP
    clear hP
    go_wp2_with fail
    refine HM.out.mono ?_
    rintro e w4 ⟨rfl, hb4⟩
    have HF : Hid (ActPost ok rb i v ws w (.panicked [{ v := faultV 51 x, recovered := false }]) w4) := by
      show ActPost _ _ _ _ _ _ _ _
      unfold ActPost
      rw [HP.out, ← HX.out]
      exact ⟨rfl, (But.below HB0.out).trans ((But.below HB3.out).trans (But.below hb4))⟩
    clear hb4
    go_wp2_with fail
    exact ⟨rfl, HF.out⟩
  · have hkz : (0 : Int) < k := by omega
    have hne : ¬ x.t = ⟨#[]⟩ := idx_pos (by rw [HK.out]; exact hkz)
    have HIs := Lib.hid (is_any H3.out ⟨#[]⟩ false (by rw [HX.out]; simpa using hne))
    clear hne
    go_wp2_with fail
    refine HIs.out.mono ?_
    rintro e w4 ⟨rfl, hb4⟩
    have HM := Lib.hid (pmust_ok (H3.out.below hb4) 51 x HX.out (by omega))
    have HB4 := Lib.hid (HB3.out.trans (hb4.mono HB3.out.size))
    clear hb4
    go_wp2_with fail
    refine HM.out.mono ?_
    rintro e w5 ⟨rfl, hr5, hb5⟩
    have hbt5 : But (fun b => b = rb) W0 w5 := (But.below HB4.out).trans hb5
    have hsz5 := hbt5.size
    obtain ⟨W6, hW6⟩ : ∃ W6, W6 = w5.alloc (.cells #[.int .i64 k, .slice none 0 0] 45) := ⟨_, rfl⟩
    have hb6 : Below w5.heap.size w5 W6 := by rw [hW6]; exact (Below.refl _ _).alloc (Nat.le_refl _) _
    have hh6 : W6.heap[w5.heap.size]? = some (.cells #[.int .i64 k, .slice none 0 0] 45 (0, 0)) := by rw [hW6]; exact heap_alloc_new _ _
    have hs6 : W6.heap.size = w5.heap.size + 1 := by rw [hW6]; simp
    have hh60 : W6.heap[w.heap.size]? = some (.cells #[.int .i64 0, .slice none 0 0] 45 (0, 0)) := (hb6.block _ (by have := HS0.out; omega)).trans ((hbt5.block _ (by have := HS0.out; omega) (by omega)).trans HH0.out)
    have a0 : W6.cell? ⟨w5.heap.size, 0, none⟩ = some (.int .i64 k) := by simp [World.cell?, hh6]
    have a1 : W6.cell? ⟨w5.heap.size, 1, none⟩ = some (.slice none 0 0) := by simp [World.cell?, hh6]
    have HR6 := Lib.hid (hr5.below hb6)
    have HBt6 : Hid (But (fun b => b = rb) W0 W6) := hbt5.trans (But.below hb6)
    have HH6 := Lib.hid hh6
    have HH60 := Lib.hid hh60
    have HW6 := Lib.hid hW6
    have HS6 := Lib.hid hs6
    have Hs5 := Lib.hid hsz5
    clear hr5 hb5 hbt5 hsz5 hb6 hh6 hs6 hh60 hW6 HM HIs H3 HB3 HB4 HB1 HB2 H0
    go_upto_region 4 with fail
    rw [← HW6.out]
    clear HW6
    by_cases hk3 : k < 3
    · have hP : Pr.act ws i = .ok (k, [], i + 1) := by unfold Pr.act; rw [HX.out, HK.out, if_neg (by omega), if_pos hk3]
      have HP := Lib.hid hP
      have t0 : W6.cell? ⟨w.heap.size, 0, none⟩ = some (.int .i64 0) := by simp [World.cell?, HH60.out]
      have t1 : W6.cell? ⟨w.heap.size, 1, none⟩ = some (.slice none 0 0) := by simp [World.cell?, HH60.out]
      have g0 : W6.frozen? ⟨w.heap.size, 0, none⟩ = false := by simp [World.frozen?, HH60.out]
      have g1 : W6.frozen? ⟨w.heap.size, 1, none⟩ = false := by simp [World.frozen?, HH60.out]
      clear hP
      go_wp2_with fail
      refine bodyPost_ret (res_act _ w.heap.size _ k none 0 0 rfl ?_ ?_) rfl ?_
      · exact cell_setd2 (cell_set_same _ t0) (by simp)
      · exact cell_set_same _ (cell_setd2 t1 (by simp))
      unfold ActPost
      rw [HP.out]
      have hbs : But (fun b => b = w.heap.size) W6 ((W6.setCell ⟨w.heap.size, 0, none⟩ (.int .i64 k)).setCell ⟨w.heap.size, 1, none⟩ (.slice none 0 0)) := (But.set (S := fun b => b = w.heap.size) (a := ⟨w.heap.size, 0, none⟩) rfl _).trans (But.set (S := fun b => b = w.heap.size) (a := ⟨w.heap.size, 1, none⟩) rfl _)
      refine ⟨none, 0, 0, rfl, ⟨rdsS_nil _, okV_nil _ _ _⟩, HR6.out.but hbs (fun e => by omega) (fun b hb e => by have := HOk.out b hb; omega), ?_⟩
      exact but_fresh ((But.below HB0.out).trans HBt6.out) hbs (fun b hb => by omega)
    · obtain ⟨y, hy⟩ : ∃ y, Pr.wd ws (i + 1) = y := ⟨_, rfl⟩
      have HY := Lib.hid hy
      have hk3' : ¬ k < 3 := hk3
      have hrlt := HR6.out.lt
      clear hy
      by_cases hp : y.t = ⟨#[40]⟩
      · have HIs := Lib.hid (is_any HR6.out ⟨#[40]⟩ true (by rw [HY.out]; simpa using hp))
        have hpt := hp
        have HPt := Lib.hid hpt
        clear hp hpt
        go_wp2_with fail
        refine HIs.out.mono ?_
        rintro e w7 ⟨rfl, hb7⟩
        have HM := Lib.hid (pmust_ok (HR6.out.below hb7) 51 y HY.out (by omega))
        have HB7 := Lib.hid hb7
        clear hb7 HIs
        go_wp2_with fail
        refine HM.out.mono ?_
        rintro e w8 ⟨rfl, hr8, hb8⟩
        have hbt8 : But (fun b => b = rb) W6 w8 := (But.below HB7.out).trans hb8
        have hne5 : ¬ w5.heap.size = rb := by have := HS0.out; have := Hs5.out; omega
        have hneN : ¬ w.heap.size = rb := by omega
        have hw5 : w5.heap.size < W6.heap.size := by have := HS6.out; omega
        have HN5 := Lib.hid hne5
        have HNN := Lib.hid hneN
        have f1 : W6.frozen? ⟨w5.heap.size, 1, none⟩ = false := by simp [World.frozen?, HH6.out]
        have HA0 : Hid (w8.cell? ⟨w5.heap.size, 0, none⟩ = some (.int .i64 k)) := (hbt8.cell (p := ⟨w5.heap.size, 0, none⟩) hw5 hne5).trans a0
        have HA1 : Hid (w8.cell? ⟨w5.heap.size, 1, none⟩ = some (.slice none 0 0)) := (hbt8.cell (p := ⟨w5.heap.size, 1, none⟩) hw5 hne5).trans a1
        have HF1 : Hid (w8.frozen? ⟨w5.heap.size, 1, none⟩ = false) := (hbt8.frozen (p := ⟨w5.heap.size, 1, none⟩) hw5 hne5).trans f1
        have HH8 : Hid (w8.heap[w.heap.size]? = some (.cells #[.int .i64 0, .slice none 0 0] 45 (0, 0))) := (hbt8.block _ (by have := HS0.out; have := Hs5.out; omega) hneN).trans HH60.out
        have HR8 := Lib.hid hr8
        have HBt8 : Hid (But (fun b => b = rb) W0 w8) := HBt6.out.trans hbt8
        have Hs8 := Lib.hid hbt8.size
        have HS68 : Hid (w5.heap.size < w8.heap.size) := by show _ < _; have := hbt8.size; omega
        clear hr8 hb8 hbt8 f1 a0 a1 HM HR6 HB7 HBt6 HH6 HH60 hrlt hne5 hneN
        go_wp2_with fail
        go_loopw [30] (fun s30 wr => ∃ (p n c : Nat) (T : List (List UInt8)) (ad : Option Addr), i + 2 ≤ p ∧ p ≤ ws.length + 3 + i ∧ Hid (n = T.length) ∧ Hid (n ≤ p) ∧ Hid (Rdr ok rb p v ws wr) ∧ Hid (wr.ownsRow W6.heap.size 9 1 (.slice ad n c) n (T.map fun t => Value.string (Wd.mkB t))) ∧ Hid (wr.cell? ⟨w5.heap.size, 0, none⟩ = some (.int .i64 k)) ∧ Hid (wr.cell? ⟨w5.heap.size, 1, none⟩ = some (.slice ad n c)) ∧ Hid (wr.frozen? ⟨w5.heap.size, 1, none⟩ = false) ∧ Hid (wr.heap[w.heap.size]? = some (.cells #[.int .i64 0, .slice none 0 0] 45 (0, 0))) ∧ Hid (But (fun b => b = rb ∨ w5.heap.size ≤ b) w8 wr) ∧ Hid (Pr.portsAt ws (i + 2) = prep T (Pr.portsAt ws p))) (fun s30 wr => ws.length + 10 + i - cellN wr ⟨rb, 1, none⟩)
        case atStart =>
          refine ⟨i + 2, 0, 0, [], none, Nat.le_refl _, by omega, (rfl : (0 : Nat) = ([] : List (List UInt8)).length), Nat.zero_le _, HR8, World.ownsRow_nil _ _ _ _, HA0, HA1, HF1, HH8, But.refl _ _, ?_⟩
          show _ = _
          cases Pr.portsAt ws (i + 2) with
          | ok r => simp [prep]
          | error e => rfl
        case round =>
          clear HR8 HA0 HA1 HF1 HH8
          obtain ⟨wo, rfl⟩ : ∃ wo : World, wo = wr := ⟨wr, rfl⟩
          obtain ⟨p, n, c, T, ad, hp1, hp2, HNl, HNp, HRo, HOw, HA0, HA1, HF1, HHo, HBo, HPo⟩ := hrel
          have HM0 : Hid (cellN wo ⟨rb, 1, none⟩ = p) := by show _ = _; unfold cellN; rw [HRo.out.c1]; simp [intOf]
          obtain ⟨x2, hx2⟩ : ∃ x2, Pr.wd ws p = x2 := ⟨_, rfl⟩
          have HX2 := Lib.hid hx2
          have hxsz : x2.t.size ≤ 3000000 := by rw [← hx2]; exact HWz.out p
          obtain ⟨i0, hii, hz0, hz1, hz2⟩ := info_parts infoS
          have HWd := Lib.hid (word_any (HRo.out.below (Below.refl _ _).drew) x2 hx2)
          have hwlo : w5.heap.size < wo.heap.size := by have := HS68.out; have := HBo.out.size; omega
          have hno : p ≤ 2000020 := by have := hfew; omega
          clear hx2
          have hS0 : (fun W : World => W.cell? ⟨w5.heap.size, 1, none⟩ = some (.slice ad n c)) wo.drew := HA1.out
          go_upto_region 7 with fail
          refine wp_region_heldG (fun W : World => W.cell? ⟨w5.heap.size, 1, none⟩ = some (.slice ad n c)) 11 (by kernel_rfl) ?_
          refine wpAnyG_takeP 0 (v := ?v0) rfl (by kernel_rfl) (fun _ _ _ h => h) (by rfl) ?h0 hS0 ?_
          case h0 => (intro wl; go_simp; try with_reducible rfl)
          try simp only [Act.put, List.setIfInBounds_toArray, List.set_cons_zero, List.set_cons_succ]
          refine wpAnyG_takeL 1 (v := ?v1) rfl (by kernel_rfl) (fun _ _ _ h => h) (by rfl) ?h1 hS0 ?_
          case h1 => (intro wl hl; have l0 := hl; go_simp; try with_reducible rfl)
          try simp only [Act.put, List.setIfInBounds_toArray, List.set_cons_zero, List.set_cons_succ]
          refine wpAnyG_takeP 2 (v := ?v2) rfl (by kernel_rfl) (fun _ _ _ h => h) (by rfl) ?h2 hS0 ?_
          case h2 => (intro wl; go_simp; try with_reducible rfl)
          try simp only [Act.put, List.setIfInBounds_toArray, List.set_cons_zero, List.set_cons_succ]
          refine wpAnyG_takeP 3 (v := ?v3) rfl (by kernel_rfl) (fun _ _ _ h => h) (by rfl) ?h3 hS0 ?_
          case h3 => (intro wl; go_simp; try with_reducible rfl)
          try simp only [Act.put, List.setIfInBounds_toArray, List.set_cons_zero, List.set_cons_succ]
          refine wpAnyG_one 4 rfl (by kernel_rfl) (fun K hK => ?_)
          go_simp
          go_at_call 86
          refine HWd.out.mono ?_
          rintro e wa ⟨rfl, hba⟩
          have hbo : Below wo.heap.size wo wa := ((Below.refl _ _).drew).trans hba
          have hS1 : (fun W : World => W.cell? ⟨w5.heap.size, 1, none⟩ = some (.slice ad n c)) wa := (hbo.cell (p := ⟨w5.heap.size, 1, none⟩) hwlo).trans HA1.out
          have HBa := Lib.hid hbo
          clear hba hbo
          refine hK _ _ (fun _ => hS1) ?_
          clear hK K
          try simp only [Act.put, List.setIfInBounds_toArray, List.set_cons_zero, List.set_cons_succ]
          refine wpAnyG_takeP 5 (v := ?v5) rfl (by kernel_rfl) (fun _ _ _ h => h) (by rfl) ?h5 hS1 ?_
          case h5 => (intro wl; go_simp; try with_reducible rfl)
          try simp only [Act.put, List.setIfInBounds_toArray, List.set_cons_zero, List.set_cons_succ]
          have hab : AbS wo w5.heap.size w.heap.size k (.slice ad n c) := ⟨HA0.out, HA1.out, HF1.out, HHo.out⟩
          have HAb := Lib.hid hab
          have hNab : w.heap.size ≠ w5.heap.size := by have := HS0.out; have := Hs5.out; omega
          have HNab := Lib.hid hNab
          clear hab hNab hS0
          by_cases hnb : Rp.nameB x2.t.data.toList = true
          · refine wpAnyG_one 6 rfl (by kernel_rfl) (fun K hK => ?_)
            go_simp
            go_at_call 116
            refine (name_is x2.t true (by unfold maxLen; omega) hnb wa).mono ?_
            rintro e wb ⟨rfl, rfl⟩
            refine hK _ _ (fun _ => hS1) ?_
            clear hK K
            try simp only [Act.put, List.setIfInBounds_toArray, List.set_cons_zero, List.set_cons_succ]
            refine wpAnyG_one 7 rfl (by kernel_rfl) (fun K hK => ?_)
            go_simp
            go_at_call 50
            refine (pmust_ok (HRo.out.below HBa.out) 31 x2 HX2.out (by omega)).mono ?_
            rintro e wm ⟨rfl, hrm, hbm⟩
            have hom : But (fun b => b = rb) wo wm := (But.below HBa.out).trans hbm
            have hlN : w.heap.size + 1 ≤ w5.heap.size := by have := HS0.out; have := Hs5.out; omega
            have habm := HAb.out.but hom (fun e => by omega) (fun e => by omega)
            have hS2 : (fun W : World => W.cell? ⟨w5.heap.size, 1, none⟩ = some (.slice ad n c)) wm := habm.c1
            have howm := ownsRow_butS' HOw.out hom (fun b hb e => by have := (HOw.out.lt b hb).1; have := HS6.out; omega)
            have HRm := Lib.hid hrm
            have HOm := Lib.hid hom
            have HAbm := Lib.hid habm
            have HOwm := Lib.hid howm
            have hszm : wo.heap.size ≤ wm.heap.size := hom.size
            clear hbm hrm hom habm howm hS1
            refine hK _ _ (fun _ => hS2) ?_
            clear hK K
            try simp only [Act.put, List.setIfInBounds_toArray, List.set_cons_zero, List.set_cons_succ]
            refine wpAnyG_one 8 rfl (by kernel_rfl) (fun K hK => ?_)
            go_simp
            have hSb : (fun W : World => W.cell? ⟨w5.heap.size, 1, none⟩ = some (.slice ad n c)) (wm.alloc (.cells #[.string x2.t] 9)) := ((Below.refl wm.heap.size wm).alloc (Nat.le_refl _) _).cell (p := ⟨w5.heap.size, 1, none⟩) (show w5.heap.size < wm.heap.size by omega) |>.trans hS2
            refine hK _ _ (fun _ => hSb) ?_
            clear hK K
            try simp only [Act.put, List.setIfInBounds_toArray, List.set_cons_zero, List.set_cons_succ]
            have hn6 : n ≤ 7000000 := by have := HNp.out; omega
            have hW6m : W6.heap.size ≤ wm.heap.size := by have := HS6.out; omega
            refine wpAnyG_one 9 rfl (by kernel_rfl) (fun K hK => ?_)
            (refine step_append_lies _ (by rfl) (.tmp 30) (.tmp 37) _ (by rfl) W6.heap.size 9 i0 _ 1 16 Tryz.underlying43 hii hz0 hz1 hz2 rfl (by decide) (.slice ad n c) n (T.map fun t => Value.string (Wd.mkB t)) (by rfl) (HOwm.out.alloc _) ⟨wm.heap.size, 0, none⟩ 1 1 [.string x2.t] (by rfl) (by rfl) (World.news_of_block (cs := #[.string x2.t]) (t := 9) (fr := (0, 0)) (heap_alloc_new wm _)) (by simp [Value.oneCell']) (by omega) (by unfold maxLen; omega) (by omega) (by simp; omega) (wm.heap.size + 1) (by simp) ?_; intro gg cap8 wc hownc hgrow hat hltc)
            have hgg : (Value.slice ad n c).ownBlock = some gg ∨ gg = wm.heap.size + 1 := hat
            have hbc : But (fun b => (Value.slice ad n c).ownBlock = some b) wm wc := (But.below ((Below.refl wm.heap.size wm).alloc (Nat.le_refl _) (.cells #[.string x2.t] 9))).trans ⟨hgrow.os, hgrow.tape, hgrow.output, hgrow.size, fun k hk hn => hgrow.block k hk (fun e => hn e.symm)⟩
            have hob : ∀ b, (Value.slice ad n c).ownBlock = some b → W6.heap.size ≤ b := fun b hb => (HOwm.out.lt b hb).1
            have habc := HAbm.out.but hbc (fun e => by have := hob _ e; omega) (fun e => by have := hob _ e; omega)
            have hrc := HRm.out.but hbc (fun e => by have := hob _ e; omega) (fun b hb e => by have := hob _ e; have := HOk.out b hb; omega)
            have hSc : (fun W : World => W.cell? ⟨w5.heap.size, 1, none⟩ = some (.slice ad n c)) wc := habc.c1
            have q1 := habc.c1
            have q2 := habc.f1
            have hmc := hbc.size
            have hgg6 : W6.heap.size ≤ gg := by
              rcases hgg with h | h
              · exact hob _ h
              · omega
            have hbtc : But (fun b => b = rb ∨ w5.heap.size ≤ b) w8 wc := (HBo.out.trans (HOm.out.mono fun b hb => .inl hb)).trans (hbc.mono fun b hb => .inr (by have := hob b hb; omega))
            have HOc := Lib.hid hownc
            have HAbc := Lib.hid habc
            have HRc := Lib.hid hrc
            have HBtc := Lib.hid hbtc
            have Hgg := Lib.hid hgg6
            clear hgg hbc hob habc hrc hbtc hownc hgrow hat hltc hSb
            refine hK _ _ (fun _ => hSc) ?_
            clear hK K
            try simp only [Act.put, List.setIfInBounds_toArray, List.set_cons_zero, List.set_cons_succ]
            refine wpAnyG_takeP 10 (v := ?v10) rfl (by kernel_rfl) (fun _ _ _ h => h) (by rfl) ?h10 hSc ?_
            case h10 => (intro wl; go_simp; try with_reducible rfl)
            try simp only [Act.put, List.setIfInBounds_toArray, List.set_cons_zero, List.set_cons_succ]
            refine wpAnyG_one 11 rfl (by kernel_rfl) (fun K hK => ?_)
            go_simp
            refine hK _ _ (fun h => absurd h (by decide)) ?_
            clear hK K
            refine wpAnyG_done (by kernel_rfl) ?_ _
            obtain ⟨we, hwe⟩ : ∃ we, we = wc.setCell ⟨w5.heap.size, 1, none⟩ (.slice (some ⟨gg, 0, none⟩) (n + 1) cap8) := ⟨_, rfl⟩
            rw [← hwe]
            have hset := HAbc.out.set HNab.out (.slice (some ⟨gg, 0, none⟩) (n + 1) cap8)
            rw [← hwe] at hset
            have hre := HRc.out.but hset.2 (fun e => by omega) (fun b hb e => by have := HOk.out b hb; omega)
            have howe : we.ownsRow W6.heap.size 9 1 (.slice (some ⟨gg, 0, none⟩) (n + 1) cap8) (n + 1) ((T ++ [x2.t.data.toList]).map fun t => Value.string (Wd.mkB t)) := by
              have h1 := ownsRow_butS' HOc.out hset.2 (fun b hb e => by injection hb with hb; have hb : gg = b := hb; have := Hgg.out; omega)
              have e1 : (T.map fun t => Value.string (Wd.mkB t)) ++ [.string x2.t] = (T ++ [x2.t.data.toList]).map fun t => Value.string (Wd.mkB t) := by simp [Wd.mkB_of]
              rw [e1] at h1
              exact h1
            have hbte : But (fun b => b = rb ∨ w5.heap.size ≤ b) w8 we := HBtc.out.trans (hset.2.mono fun b hb => .inr (by omega))
            have HRe := Lib.hid hre
            have HOe := Lib.hid howe
            have HAe := Lib.hid hset.1
            have HBe := Lib.hid hbte
            have Hse := Lib.hid hset.2.size
            obtain ⟨y2, hy2⟩ : ∃ y2, Pr.wd ws (p + 1) = y2 := ⟨_, rfl⟩
            have HY2 := Lib.hid hy2
            clear hwe hset hre howe hbte hSc hS2 q1 q2 hy2
            have hnbx : Rp.nameB (Pr.wd ws p).t.data.toList = true := by rw [HX2.out]; exact hnb
            have HNbx := Lib.hid hnbx
            clear hnb hnbx
            by_cases hcm : y2.t = ⟨#[44]⟩
            · have HIc := Lib.hid (is_any HRe.out ⟨#[44]⟩ true (by rw [HY2.out]; simpa using hcm))
              have hP2 : Hid (Pr.portsAt ws (i + 2) = prep (T ++ [x2.t.data.toList]) (Pr.portsAt ws (p + 2))) := by
                show _ = _
                rw [HPo.out, ports_more T HNbx.out (by rw [HY2.out]; exact hcm), HX2.out]
              clear hcm
              go_wp2_with fail
              refine HIc.out.mono ?_
              rintro e wf ⟨rfl, hbf⟩
              have hrf := HRe.out.below hbf
              have c1 := hrf.c1
              have f1 := hrf.f1
              have hw9 : IntKind.i64.wrap (((p + 1 : Nat) : Int) + 1) = ((p + 1 : Nat) : Int) + 1 := IntWalk.i64_in _ (by omega)
              obtain ⟨p1, hp1'⟩ : ∃ p1, p + 1 = p1 := ⟨_, rfl⟩
              rw [hp1'] at c1 hw9
              have hst := hrf.step (p + 2)
              have e2 : ((p + 2 : Nat) : Int) = (p1 : Int) + 1 := by omega
              rw [e2] at hst
              obtain ⟨wg, hwg⟩ : ∃ wg, wg = wf.setCell ⟨rb, 1, none⟩ (.int .i64 ((p1 : Int) + 1)) := ⟨_, rfl⟩
              rw [← hwg] at hst
              have hbtg : But (fun b => b = rb) we wg := (But.below hbf).trans hst.2
              have hRg := Lib.hid hst.1
              have hOg := Lib.hid (ownsRow_butS' HOe.out hbtg (fun b hb e => by injection hb with hb; have hb : gg = b := hb; have := Hgg.out; omega))
              have hAg := HAe.out.but hbtg (fun e => by omega) (fun e => by omega)
              have hBg := Lib.hid (HBe.out.trans (hbtg.mono fun b hb => .inl hb))
              have HAg := Lib.hid hAg
              have HWg := Lib.hid hwg
              have hMg : Hid (cellN wg ⟨rb, 1, none⟩ = p + 2) := by show _ = _; unfold cellN; rw [hst.1.c1]; simp [intOf]; omega
              have hpl : p < ws.length := Pr.name_in HNbx.out
              clear hrf hst hbtg hAg hwg hbf e2
              go_wp2_with fail
              rw [← HWg.out]
              go_roundw
              case rel => exact ⟨p + 2, n + 1, cap8, T ++ [x2.t.data.toList], some ⟨gg, 0, none⟩, by omega, by omega, (by show _ = _; simp; exact HNl.out : Hid (n + 1 = (T ++ [x2.t.data.toList]).length)), (by have := HNp.out; show _ ≤ _; omega : Hid (n + 1 ≤ p + 2)), hRg, hOg, HAg.out.c0, HAg.out.c1, HAg.out.f1, HAg.out.nb, hBg, hP2⟩
              case measure => rw [hMg.out, HM0.out]; omega
            · have hP1 : Pr.portsAt ws (i + 2) = .ok (T ++ [x2.t.data.toList], p + 1) := by rw [HPo.out, ports_last HNbx.out (by rw [HY2.out]; exact hcm), HX2.out]; rfl
              obtain ⟨U, hU⟩ : ∃ U, U = T ++ [x2.t.data.toList] := ⟨_, rfl⟩
              rw [← hU] at HOe hP1
              have HIc := Lib.hid (is_any HRe.out ⟨#[44]⟩ false (by rw [HY2.out]; simpa using hcm))
              have HP1 := Lib.hid hP1
              have hUl : U.length = n + 1 := by rw [hU]; simp; exact HNl.out.symm
              have HUl := Lib.hid hUl
              clear hcm hP1 hU hUl
              go_wp2_with fail
              refine HIc.out.mono ?_
              rintro e wf ⟨rfl, hbf⟩
              obtain ⟨g9, hg9, hgl, hg6, hncap, hcapm, hq0, hH⟩ := holds_own (ownsRow_below HOe.out hbf) (by omega)
              injection hg9 with hg9
              injection hg9 with hg9
              subst hg9
              have hAf := HAe.out.below hbf
              have c1 := hAf.c1
              have HSo := Lib.hid (sort_own (c := cap8) hH hgl HUl.out (by omega))
              have HAf := Lib.hid hAf
              have HRf := Lib.hid (HRe.out.below hbf)
              have HBf := Lib.hid (HBe.out.trans (But.below hbf))
              have HGl := Lib.hid hgl
              have HG6 := Lib.hid hg6
              have HNc := Lib.hid hncap
              have HCm := Lib.hid hcapm
              clear hbf hH hAf hgl hg6 hncap hcapm hq0
              go_wp2_with fail
              refine HSo.out.mono ?_
              rintro e wg ⟨rfl, hHg, hbg⟩
              have hg6 := HG6.out
              have hAg := HAf.out.but hbg (fun e => by omega) (fun e => by omega)
              have HRg := Lib.hid (HRf.out.but hbg (fun e => by omega) (fun b hb e => by have := HOk.out b hb; omega))
              have hcl := compact_le (U.mergeSort fun x y => decide (x ≤ y))
              rw [List.length_mergeSort, HUl.out] at hcl
              have HCo := Lib.hid (compact_own (c := cap8) hHg (by rw [List.length_mergeSort]; exact HUl.out) HNc.out HCm.out (compact_pos U (by rw [HUl.out]; omega)) hcl)
              have c2 := hAg.c1
              have HAg := Lib.hid hAg
              have HBg := Lib.hid (HBf.out.trans (hbg.mono fun b hb => .inr (by omega)))
              clear hHg hbg hAg c1 hg6
              rw [Pr.sort_compact] at HCo hcl
              obtain ⟨P, hP⟩ : ∃ P, U.foldl Pr.putL [] = P := ⟨_, rfl⟩
              rw [hP] at HCo hcl
              obtain ⟨m, hm⟩ : ∃ m, P.length = m := ⟨_, rfl⟩
              rw [hm] at HCo hcl
              have HPP := Lib.hid hP
              have HMm := Lib.hid hm
              clear hP hm
              go_wp2_with fail
              refine HCo.out.mono ?_
              rintro e wh ⟨rfl, hrh, hbh⟩
              have hg6 := HG6.out
              have hAh := HAg.out.but hbh (fun e => by omega) (fun e => by omega)
              have hRh := HRg.out.but hbh (fun e => by omega) (fun b hb e => by have := HOk.out b hb; omega)
              have c3 := hAh.c1
              have f3 := hAh.f1
              obtain ⟨wi, hwi⟩ : ∃ wi, wi = wh.setCell ⟨w5.heap.size, 1, none⟩ (.slice (some ⟨gg, 0, none⟩) m cap8) := ⟨_, rfl⟩
              have hset := hAh.set HNab.out (.slice (some ⟨gg, 0, none⟩) m cap8)
              rw [← hwi] at hset
              have HRi := Lib.hid (hRh.but hset.2 (fun e => by omega) (fun b hb e => by have := HOk.out b hb; omega))
              have hro : RdsO (fun b => W6.heap.size ≤ b) wh (.slice (some ⟨gg, 0, none⟩) m cap8) (P.map Wd.mkB) := ⟨hrh, okV_some HG6.out⟩
              have HRo2 := Lib.hid (hro.but hset.2 (fun b hb e => by omega))
              have HAi := Lib.hid hset.1
              have HBi := Lib.hid ((HBg.out.trans (hbh.mono fun b hb => .inr (by omega))).trans (hset.2.mono fun b hb => .inr (by omega)))
              have HWi := Lib.hid hwi
              clear hrh hbh hAh hRh hwi hset hro hg6
              go_upto_region 12 with fail
              rw [← HWi.out]
              clear HWi c2 c3 f3
              have hPA : Pr.act ws i = if ¬ y2.t = ⟨#[41]⟩ then .error (51, p + 1) else if 64 < m then .error (3, p + 1) else .ok (k, P.map Wd.mkB, p + 2) := by
                unfold Pr.act
                rw [HX.out, HK.out, if_neg (by omega), if_neg (by omega), if_neg (by rw [HY.out]; exact fun e => e HPt.out), HP1.out]
                show (if ¬ (Pr.wd ws (p + 1)).t = ⟨#[41]⟩ then _ else if 64 < (U.foldl Pr.putL []).length then _ else Except.ok (k, (U.foldl Pr.putL []).map Wd.mkB, p + 1 + 1)) = _
                rw [HY2.out, HPP.out, HMm.out]
              have HPA := Lib.hid hPA
              have hAc := HAi.out.c1
              have HBtot : Hid (But (fun b => b = rb) w wi) := But.less (S := fun b => b = rb ∨ w5.heap.size ≤ b) ((((But.below HB0.out).trans HBt8.out).mono fun b hb => .inl hb).trans HBi.out) (fun b hb h => by
                rcases h with h | h
                · exact h
                · have := HS0.out; have := Hs5.out; omega)
              clear hPA
              by_cases hcl : y2.t = ⟨#[41]⟩
              · have HIz := Lib.hid (is_any HRi.out ⟨#[41]⟩ true (by rw [HY2.out]; simpa using hcl))
                have HIz2 : Hid (∀ Wx, Below wi.heap.size wi Wx → Calls Tryz.prog 84 #[.pointer (some ⟨rb, 0, none⟩), .string ⟨#[41]⟩] Wx fun e w' => e = .returned (.bool true) ∧ Below Wx.heap.size Wx w') := fun Wx hWx => is_any (HRi.out.below hWx) ⟨#[41]⟩ true (by rw [HY2.out]; simpa using hcl)
                have HCl := Lib.hid hcl
                clear hcl
                by_cases hm64 : 64 < m
                · have hmz : (64 : Int) < (m : Int) := by omega
                  have hPb : Pr.act ws i = .error (3, p + 1) := by rw [HPA.out, if_neg (fun e => e HCl.out), if_pos hm64]
                  have HPb := Lib.hid hPb
                  clear hPb
                  go_wp2_with fail
                  refine HIz.out.mono ?_
                  rintro e wj ⟨rfl, hbj⟩
                  have hAj := (hbj.cell (p := ⟨w5.heap.size, 1, none⟩) (cellLt hAc)).trans hAc
                  have HMb := Lib.hid (pmust_bad (HRi.out.below hbj) 3 y2 HY2.out)
                  have HBj := Lib.hid hbj
                  clear hbj
                  go_wp2_with fail
                  refine HMb.out.mono ?_
                  rintro e wk ⟨rfl, hbk⟩
                  have HF : Hid (ActPost ok rb i v ws w (.panicked [{ v := faultV 3 y2, recovered := false }]) wk) := by
                    show ActPost _ _ _ _ _ _ _ _
                    unfold ActPost
                    rw [HPb.out, ← HY2.out]
                    exact ⟨rfl, HBtot.out.trans ((But.below HBj.out).trans (But.below hbk))⟩
                  clear hbk
                  go_wp2_with fail
                  exact ⟨rfl, HF.out⟩
                · have hmz : decide ((64 : Int) < (m : Int)) = false := by simp; omega
                  have hPb : Pr.act ws i = .ok (k, P.map Wd.mkB, p + 2) := by rw [HPA.out, if_neg (fun e => e HCl.out), if_neg hm64]
                  have HPb := Lib.hid hPb
                  clear hPb
                  go_wp2_with fail
                  refine HIz.out.mono ?_
                  rintro e wj ⟨rfl, hbj⟩
                  have hAj := (hbj.cell (p := ⟨w5.heap.size, 1, none⟩) (cellLt hAc)).trans hAc
                  have HBj := Lib.hid hbj
                  clear hbj
                  go_wp2_with fail
                  refine (HIz2.out _ HBj.out).mono ?_
                  rintro e wk ⟨rfl, hbk⟩
                  have HBk := Lib.hid (HBj.out.trans (hbk.mono HBj.out.size))
                  have HMo := Lib.hid (pmust_ok (HRi.out.below HBk.out) 51 y2 HY2.out (by omega))
                  clear hbk hAj
                  go_wp2_with fail
                  refine HMo.out.mono ?_
                  rintro e wl ⟨rfl, hrl, hbl⟩
                  have hbil : But (fun b => b = rb) wi wl := (But.below HBk.out).trans hbl
                  have hAl := HAi.out.but hbil (fun e => by omega) (fun e => by omega)
                  have z0 := hAl.c0
                  have z1 := hAl.c1
                  have hnb := hAl.nb
                  have t0 : wl.cell? ⟨w.heap.size, 0, none⟩ = some (.int .i64 0) := by simp [World.cell?, hnb]
                  have t1 : wl.cell? ⟨w.heap.size, 1, none⟩ = some (.slice none 0 0) := by simp [World.cell?, hnb]
                  have g0 : wl.frozen? ⟨w.heap.size, 0, none⟩ = false := by simp [World.frozen?, hnb]
                  have g1 : wl.frozen? ⟨w.heap.size, 1, none⟩ = false := by simp [World.frozen?, hnb]
                  have HRl := Lib.hid hrl
                  have HBl := Lib.hid hbil
                  have hrol := HRo2.out.but hbil (fun b hb e => by omega)
                  have HRol := Lib.hid hrol
                  clear hrl hbl hbil hAl hnb hrol hAc
                  go_wp2_with fail
                  refine bodyPost_ret (res_act _ w.heap.size _ k (some ⟨gg, 0, none⟩) m cap8 rfl ?_ ?_) rfl ?_
                  · exact cell_setd2 (cell_set_same _ t0) (by simp)
                  · exact cell_set_same _ (cell_setd2 t1 (by simp))
                  unfold ActPost
                  rw [HPb.out]
                  have hbs : But (fun b => b = w.heap.size) wl ((wl.setCell ⟨w.heap.size, 0, none⟩ (.int .i64 k)).setCell ⟨w.heap.size, 1, none⟩ (.slice (some ⟨gg, 0, none⟩) m cap8)) := (But.set (S := fun b => b = w.heap.size) (a := ⟨w.heap.size, 0, none⟩) rfl _).trans (But.set (S := fun b => b = w.heap.size) (a := ⟨w.heap.size, 1, none⟩) rfl _)
                  have hN6 : w.heap.size < W6.heap.size := by have := HS0.out; have := Hs5.out; have := HS6.out; omega
                  refine ⟨some ⟨gg, 0, none⟩, m, cap8, rfl, (HRol.out.but hbs (fun b hb e => by omega)).mono (fun b hb => by omega), HRl.out.but hbs (fun e => by omega) (fun b hb e => by have := HOk.out b hb; omega), ?_⟩
                  exact but_fresh (HBtot.out.trans HBl.out) hbs (fun b hb => by omega)
              · have HIz := Lib.hid (is_any HRi.out ⟨#[41]⟩ false (by rw [HY2.out]; simpa using hcl))
                have HIz2 : Hid (∀ Wx, Below wi.heap.size wi Wx → Calls Tryz.prog 84 #[.pointer (some ⟨rb, 0, none⟩), .string ⟨#[41]⟩] Wx fun e w' => e = .returned (.bool false) ∧ Below Wx.heap.size Wx w') := fun Wx hWx => is_any (HRi.out.below hWx) ⟨#[41]⟩ false (by rw [HY2.out]; simpa using hcl)
                have hPb : Pr.act ws i = .error (51, p + 1) := by rw [HPA.out, if_pos hcl]
                have HPb := Lib.hid hPb
                clear hPb hcl
                go_wp2_with fail
                refine HIz.out.mono ?_
                rintro e wj ⟨rfl, hbj⟩
                have HBj := Lib.hid hbj
                clear hbj
                go_wp2_with fail
                refine (HIz2.out _ HBj.out).mono ?_
                rintro e wk ⟨rfl, hbk⟩
                have HBk := Lib.hid (HBj.out.trans (hbk.mono HBj.out.size))
                have HMb := Lib.hid (pmust_bad (HRi.out.below HBk.out) 51 y2 HY2.out)
                clear hbk
                go_wp2_with fail
                refine HMb.out.mono ?_
                rintro e wl ⟨rfl, hbl⟩
                have HF : Hid (ActPost ok rb i v ws w (.panicked [{ v := faultV 51 y2, recovered := false }]) wl) := by
                  show ActPost _ _ _ _ _ _ _ _
                  unfold ActPost
                  rw [HPb.out, ← HY2.out]
                  exact ⟨rfl, HBtot.out.trans ((But.below HBk.out).trans (But.below hbl))⟩
                clear hbl
                go_wp2_with fail
                exact ⟨rfl, HF.out⟩
          · have hnb' : Rp.nameB x2.t.data.toList = false := by simpa using hnb
            refine wpAnyG_one 6 rfl (by kernel_rfl) (fun K hK => ?_)
            go_simp
            go_at_call 116
            refine (name_is x2.t false (by unfold maxLen; omega) hnb' wa).mono ?_
            rintro e wb ⟨rfl, rfl⟩
            refine hK _ _ (fun _ => hS1) ?_
            clear hK K
            try simp only [Act.put, List.setIfInBounds_toArray, List.set_cons_zero, List.set_cons_succ]
            have hP : Pr.act ws i = .error (31, p) := by
              have h2 := HPo.out
              rw [ports_bad' (p := p) (by rw [HX2.out]; exact hnb')] at h2
              unfold Pr.act
              rw [HX.out, HK.out, if_neg (by omega), if_neg (by omega), if_neg (by rw [HY.out]; exact fun e => e HPt.out), h2]
              rfl
            refine wpAnyG_one 7 rfl (by kernel_rfl) (fun K hK => ?_)
            go_simp
            go_at_call 50
            refine (pmust_bad (HRo.out.below HBa.out) 31 x2 HX2.out).mono ?_
            rintro e wm ⟨rfl, hbm⟩
            have HF : Hid (ActPost ok rb i v ws w (.panicked [{ v := faultV 31 x2, recovered := false }]) wm) := by
              show ActPost _ _ _ _ _ _ _ _
              unfold ActPost
              rw [hP, ← HX2.out]
              refine ⟨rfl, But.less (S := fun b => b = rb ∨ w5.heap.size ≤ b) (((((But.below HB0.out).trans HBt8.out).mono fun b hb => .inl hb).trans HBo.out).trans ((But.below HBa.out).trans (But.below hbm))) (fun b hb h => ?_)⟩
              rcases h with h | h
              · exact h
              · have := HS0.out; have := Hs5.out; omega
            exact ⟨rfl, HF.out⟩
      · have HIs := Lib.hid (is_any HR6.out ⟨#[40]⟩ false (by rw [HY.out]; simpa using hp))
        have hP : Pr.act ws i = .error (51, i + 1) := by unfold Pr.act; rw [HX.out, HK.out, if_neg (by omega), if_neg (by omega), if_pos (by rw [HY.out]; exact hp)]
        have HP := Lib.hid hP
        clear hp hP
        go_wp2_with fail
        refine HIs.out.mono ?_
        rintro e w7 ⟨rfl, hb7⟩
        have HM := Lib.hid (pmust_bad (HR6.out.below hb7) 51 y HY.out)
        have HB7 := Lib.hid hb7
        clear hb7 HIs
        go_wp2_with fail
        refine HM.out.mono ?_
        rintro e w8 ⟨rfl, hb8⟩
        have HF : Hid (ActPost ok rb i v ws w (.panicked [{ v := faultV 51 y, recovered := false }]) w8) := by
          show ActPost _ _ _ _ _ _ _ _
          unfold ActPost
          rw [HP.out, ← HY.out]
          exact ⟨rfl, ((But.below HB0.out).trans HBt6.out).trans ((But.below HB7.out).trans (But.below hb8))⟩
        clear hb8
        go_wp2_with fail
        exact ⟨rfl, HF.out⟩
end Go.Proofs.YtlamhpiiikcpiaaGreatDoor
/-
  Walks over package rules: a line's rule.
-/
namespace Go.Proofs.YtlamhpiiikcpiaaGreatDoor
open Go.RowKit Go.Shelf Go.Lib Go.Sort
set_option linter.unusedVariables false
set_option linter.unusedSectionVars false
set_option linter.unusedSimpArgs false
namespace Pr
theorem ports_names : ∀ (n : Nat) (ws : List Wrd) (i : Nat) (T : List (List UInt8)) (j : Nat), ws.length - i ≤ n → portsAt ws i = .ok (T, j) → ∀ t ∈ T, Rp.nameB t = true
  | n, ws, i, T, j, hn, h => by
    rw [portsAt] at h
    split at h
    · rename_i hb
      have hi := name_in hb
      split at h
      · cases n with
        | zero => omega
        | succ n =>
          split at h
          · rename_i r hr
            injection h with h
            have h1 := congrArg Prod.fst h
            simp only at h1
            subst h1
            intro t ht
            rcases List.mem_cons.1 ht with e | e
            · rw [e]; exact hb
            · exact ports_names n ws (i + 2) r.1 r.2 (by omega) hr t e
          · cases h
      · injection h with h
        have h1 := congrArg Prod.fst h
        simp only at h1
        subst h1
        intro t ht
        simp only [List.mem_singleton] at ht
        rw [ht]; exact hb
    · cases h
theorem act_small {ws : List Wrd} {i : Nat} {k : Int} {P : List ByteArray} {j : Nat} (h : act ws i = .ok (k, P, j)) : P.length ≤ 64 ∧ (∀ x ∈ P, x.size ≤ 64) ∧ i < j ∧ j ≤ ws.length + i + 3 := by
  unfold act at h
  split at h
  · cases h
  · split at h
    · injection h with h
      injection h with h1 h2
      injection h2 with h2 h3
      subst h2 h3
      exact ⟨by simp, fun x hx => (by cases hx), by omega, by omega⟩
    · split at h
      · cases h
      · split at h
        · cases h
        · rename_i T j' hT
          split at h
          · cases h
          · split at h
            · cases h
            · rename_i h64
              injection h with h
              injection h with h1 h2
              injection h2 with h2 h3
              subst h2 h3
              have hl := portsAt_len _ ws (i + 2) T j' (Nat.le_refl _) hT
              refine ⟨by rw [List.length_map]; omega, fun x hx => ?_, by omega, by omega⟩
              obtain ⟨t, ht, rfl⟩ := List.mem_map.1 hx
              have ht2 : t ∈ T := by
                have := ((foldl_put_spec T [] List.Pairwise.nil).2 t).1 ht
                simpa using this
              have hn := ports_names _ ws (i + 2) T j' (Nat.le_refl _) hT t ht2
              rw [Wd.mkB_size]
              unfold Rp.nameB at hn
              simp only [Bool.and_eq_true, decide_eq_true_eq] at hn
              exact hn.1.1.1.2
end Pr
/-- What reading a line leaves. -/
def RulePost (ok : Nat → Prop) (rb : Nat) (v : Value) (ws : List Wrd) (width : Int) (w : World) (e : Ending) (w' : World) : Prop :=
  match Pr.rule ws width with
  | .ok r => ∃ x : RC, e = .returned (.agg #[.int .i64 x.p, .string x.m, .int .i64 x.k, .slice x.a x.n x.c]) ∧ RdC (fun b => w.heap.size ≤ b) w' x r ∧ (∃ j, Rdr ok rb j v ws w') ∧ But (fun b => b = rb) w w'
  | .error (c, j) => e = .panicked [{ v := faultV c (Pr.wd ws j), recovered := false }] ∧ But (fun b => b = rb) w w'
theorem res_rule (w : World) (b : Nat) (tmps : Array Value) (p k : Int) (m : ByteArray) (a : Option Addr) (n c : Nat) (h4 : tmps.getD 4 undef = .pointer (some ⟨b, 0, none⟩)) (h0 : w.cell? ⟨b, 0, none⟩ = some (.int .i64 p)) (h1 : w.cell? ⟨b, 1, none⟩ = some (.string m)) (h2 : w.cell? ⟨b, 2, none⟩ = some (.int .i64 k)) (h3 : w.cell? ⟨b, 3, none⟩ = some (.slice a n c)) :
    (results Tryz.f49 tmps).run Tryz.prog w = .ok (.agg #[.int .i64 p, .string m, .int .i64 k, .slice a n c]) w := by
  rw [Array.getD_eq_getD_getElem?] at h4
  simp [results, Tryz.results49, h4, loadVar, asAddr, go_sem, Tryz.isAgg47, Tryz.sizeOf47, h0, h1, h2, h3]
theorem cubeCheck_any (a : ByteArray) (w : World) (hs : a.size ≤ maxLen) (q : Int) (hq : (if Cb.isCube a.data.toList = true then (0 : Int) else 10) = q) : Calls Tryz.prog 71 #[.string a] w fun e w' => e = .returned (.int .i64 q) ∧ Below w.heap.size w w' := by
  subst hq
  by_cases h : Cb.isCube a.data.toList = true
  · rw [if_pos h]; exact Check_ok a w hs h
  · rw [if_neg h]; exact Check_bad a w hs (by simpa using h)
set_option maxHeartbeats 6400000 in
set_option maxRecDepth 20000 in
theorem rule_rd {ok : Nat → Prop} {rb : Nat} {v : Value} {ws : List Wrd} {w : World} (h : Rdr ok rb 0 v ws w) (hok : ∀ b, ok b → b < w.heap.size) (hz : ∀ x ∈ ws, x.t.size ≤ 3000000) (width : Int) :
    Calls Tryz.prog 49 #[.pointer (some ⟨rb, 0, none⟩), .int .i64 width] w (RulePost ok rb v ws width w) := by
  obtain ⟨W0, hW0⟩ : ∃ W0, W0 = w.alloc (.cells #[.int .i64 0, .string ⟨#[]⟩, .int .i64 0, .slice none 0 0] 47) := ⟨_, rfl⟩
  have hb0 : Below w.heap.size w W0 := by rw [hW0]; exact (Below.refl _ _).alloc (Nat.le_refl _) _
  have hh0 : W0.heap[w.heap.size]? = some (.cells #[.int .i64 0, .string ⟨#[]⟩, .int .i64 0, .slice none 0 0] 47 (0, 0)) := by rw [hW0]; exact heap_alloc_new _ _
  have hs0 : W0.heap.size = w.heap.size + 1 := by rw [hW0]; simp
  have hlt := h.lt
  have hfew := h.few
  have h0 := h.below hb0
  have H0 := Lib.hid h0
  have HB0 := Lib.hid hb0
  have HH0 := Lib.hid hh0
  have HS0 := Lib.hid hs0
  have HW0 := Lib.hid hW0
  have HOk := Lib.hid hok
  have HZ := Lib.hid hz
  have hwz : ∀ j, (Pr.wd ws j).t.size ≤ 3000000 := fun j => by
    unfold Pr.wd
    split
    · exact hz _ (List.getElem_mem _)
    · exact Nat.zero_le _
  obtain ⟨x0, hx0⟩ : ∃ x, Pr.wd ws 0 = x := ⟨_, rfl⟩
  obtain ⟨x1, hx1⟩ : ∃ x, Pr.wd ws 1 = x := ⟨_, rfl⟩
  obtain ⟨x2, hx2⟩ : ∃ x, Pr.wd ws 2 = x := ⟨_, rfl⟩
  have hz1 : x1.t.size ≤ 3000000 := by rw [← hx1]; exact hwz 1
  have hz2 : x2.t.size ≤ 3000000 := by rw [← hx2]; exact hwz 2
  have HX0 := Lib.hid hx0
  have HX1 := Lib.hid hx1
  have HX2 := Lib.hid hx2
  have hf := word_field
  clear h hb0 hh0 hs0 h0 hW0 hok hz hwz hx0 hx1 hx2
  go_enter Tryz.func49, Tryz.ntmps49
  go_upto_region 1 with fail
  rw [← HW0.out]
  clear HW0
  by_cases hq0 : x0.t = ⟨#[114, 117, 108, 101]⟩
  case neg =>
    have HIs := Lib.hid (is_any H0.out ⟨#[114, 117, 108, 101]⟩ false (by rw [HX0.out]; simpa using hq0))
    have HQ := Lib.hid hq0
    clear hq0
    go_wp2_with fail
    refine HIs.out.mono ?_
    rintro e wa ⟨rfl, hba⟩
    have HBa := Lib.hid hba
    clear hba
    have HM := Lib.hid (pmust_bad (H0.out.below HBa.out) 50 x0 HX0.out)
    have hP : Pr.rule ws width = .error (50, 0) := by unfold Pr.rule; rw [if_pos (by rw [HX0.out]; exact HQ.out)]
    have HP := Lib.hid hP
    clear hP
    go_wp2_with fail
    refine HM.out.mono ?_
    rintro e wz ⟨rfl, hbz⟩
    have HF : Hid (RulePost ok rb v ws width w (.panicked [{ v := faultV 50 x0, recovered := false }]) wz) := by
      show RulePost _ _ _ _ _ _ _ _
      unfold RulePost
      rw [HP.out, ← HX0.out]
      exact ⟨rfl, (But.below HB0.out).trans ((But.below HBa.out : But (fun b => b = rb) _ _).trans (But.below hbz))⟩
    clear hbz
    go_wp2_with fail
    exact ⟨rfl, HF.out⟩
  case pos =>
    have HIs := Lib.hid (is_any H0.out ⟨#[114, 117, 108, 101]⟩ true (by rw [HX0.out]; simpa using hq0))
    have HQ0 := Lib.hid hq0
    clear hq0
    go_wp2_with fail
    refine HIs.out.mono ?_
    rintro e wa ⟨rfl, hba⟩
    have HM0 := Lib.hid (pmust_ok (H0.out.below hba) 50 x0 HX0.out (by omega))
    have HBa := Lib.hid hba
    clear hba HIs
    go_wp2_with fail
    refine HM0.out.mono ?_
    rintro e w1 ⟨rfl, hr1, hb1⟩
    have HB1 : Hid (But (fun b => b = rb) W0 w1) := (But.below HBa.out).trans hb1
    have HR1 := Lib.hid hr1
    have HWd1 := Lib.hid (word_any hr1 x1 HX1.out)
    clear hr1 hb1 HM0 HBa H0
    obtain ⟨nm, hnm⟩ : ∃ nm, Wd.numE x1.t.data.toList = nm := ⟨_, rfl⟩
    have HNm := Lib.hid hnm
    have HNu : Hid (∀ Wx, Calls Tryz.prog 85 #[.string x1.t] Wx fun e w' => e = .returned (.tuple #[.int .i64 nm.1, .int .i64 nm.2]) ∧ Wx = w') := fun Wx => by
      have h := Number_any x1.t Wx (by unfold maxLen; omega)
      unfold numR at h
      rwa [hnm] at h
    clear hnm
    go_wp2_with fail
    refine HWd1.out.mono ?_
    rintro e wa ⟨rfl, hba⟩
    have HBa := Lib.hid hba
    clear hba HWd1
    go_wp2_with fail
    refine (HNu.out _).mono ?_
    rintro e wb ⟨rfl, rfl⟩
    by_cases hq1 : nm.2 = 0
    case neg =>
      have hqz : ((nm.2 : Int) == 0) = false := by simp; exact hq1
      have hqy : (nm.2 == 0) = false := by simpa using hq1
      have HQ := Lib.hid hq1
      clear hq1
      have HM := Lib.hid (pmust_bad (HR1.out.below HBa.out) 32 x1 HX1.out)
      have hP : Pr.rule ws width = .error (32, 1) := by unfold Pr.rule; rw [if_neg (by rw [HX0.out]; exact fun e => e HQ0.out), HX1.out, HNm.out, if_pos HQ.out]
      have HP := Lib.hid hP
      clear hP
      go_wp2_with fail
      refine HM.out.mono ?_
      rintro e wz ⟨rfl, hbz⟩
      have HF : Hid (RulePost ok rb v ws width w (.panicked [{ v := faultV 32 x1, recovered := false }]) wz) := by
        show RulePost _ _ _ _ _ _ _ _
        unfold RulePost
        rw [HP.out, ← HX1.out]
        exact ⟨rfl, (But.below HB0.out).trans ((HB1.out.trans (But.below HBa.out)).trans (But.below hbz))⟩
      clear hbz
      go_wp2_with fail
      exact ⟨rfl, HF.out⟩
    case pos =>
      have hqz : ((nm.2 : Int) == 0) = true := by rw [hq1]; rfl
      have HQ1 := Lib.hid hq1
      have HM1 := Lib.hid (pmust_ok (HR1.out.below HBa.out) 32 x1 HX1.out (by omega))
      rw [hq1]
      clear hq1
      go_wp2_with fail
      refine HM1.out.mono ?_
      rintro e w2 ⟨rfl, hr2, hb2⟩
      have HB2 : Hid (But (fun b => b = rb) W0 w2) := (HB1.out.trans (But.below HBa.out)).trans hb2
      have HR2 := Lib.hid hr2
      have HWd2 := Lib.hid (word_any hr2 x2 HX2.out)
      clear hr2 hb2 HM1 HBa HR1 HB1
      go_wp2_with fail
      refine HWd2.out.mono ?_
      rintro e wa ⟨rfl, hba⟩
      have HBa := Lib.hid hba
      clear hba HWd2
      by_cases hq2 : Cb.isCube x2.t.data.toList = true
      case neg =>
        have HQ : Hid (Cb.isCube x2.t.data.toList = false) := by show _ = _; simpa using hq2
        have HCk := Lib.hid (cubeCheck_any x2.t wa (by unfold maxLen; omega) 10 (by rw [if_neg hq2]))
        clear hq2
        go_wp2_with fail
        refine HCk.out.mono ?_
        rintro e wb ⟨rfl, hbb⟩
        have HBb := Lib.hid (HBa.out.trans (hbb.mono HBa.out.size))
        clear hbb HCk
        have HM := Lib.hid (pmust_bad (HR2.out.below HBb.out) 10 x2 HX2.out)
        have hP : Pr.rule ws width = .error (10, 2) := by unfold Pr.rule; rw [if_neg (by rw [HX0.out]; exact fun e => e HQ0.out), HX1.out, HNm.out, if_neg (by exact fun e => e HQ1.out), HX2.out, if_pos HQ.out]
        have HP := Lib.hid hP
        clear hP
        go_wp2_with fail
        refine HM.out.mono ?_
        rintro e wz ⟨rfl, hbz⟩
        have HF : Hid (RulePost ok rb v ws width w (.panicked [{ v := faultV 10 x2, recovered := false }]) wz) := by
          show RulePost _ _ _ _ _ _ _ _
          unfold RulePost
          rw [HP.out, ← HX2.out]
          exact ⟨rfl, (But.below HB0.out).trans ((HB2.out.trans (But.below HBb.out)).trans (But.below hbz))⟩
        clear hbz
        go_wp2_with fail
        exact ⟨rfl, HF.out⟩
      case pos =>
        have HQ2 := Lib.hid hq2
        have HCk := Lib.hid (cubeCheck_any x2.t wa (by unfold maxLen; omega) 0 (by rw [if_pos hq2]))
        clear hq2
        go_wp2_with fail
        refine HCk.out.mono ?_
        rintro e wb ⟨rfl, hbb⟩
        have HBb := Lib.hid (HBa.out.trans (hbb.mono HBa.out.size))
        have HM2 := Lib.hid (pmust_ok (HR2.out.below HBb.out) 10 x2 HX2.out (by omega))
        clear hbb HCk
        go_wp2_with fail
        refine HM2.out.mono ?_
        rintro e w3 ⟨rfl, hr3, hb3⟩
        have c1 := hr3.c1
        have f1 := hr3.f1
        have hst := hr3.step 2
        obtain ⟨w4, hw4⟩ : ∃ w4, w4 = w3.setCell ⟨rb, 1, none⟩ (.int .i64 2) := ⟨_, rfl⟩
        have hst' : Rdr ok rb 2 v ws w4 ∧ But (fun b => b = rb) w3 w4 := by rw [hw4]; exact hst
        have HB4 : Hid (But (fun b => b = rb) W0 w4) := ((HB2.out.trans (But.below HBb.out)).trans hb3).trans hst'.2
        have HR4 := Lib.hid hst'.1
        have HW4 := Lib.hid hw4
        clear hr3 hb3 hst hst' hw4 HM2 HBa HBb HR2 HB2
        go_upto_region 7 with fail
        rw [← HW4.out]
        clear HW4
        by_cases hq3 : (x2.t.size : Int) = width
        case neg =>
          have hqz : ((x2.t.size : Int) == width) = false := by simpa using hq3
          have HQ := Lib.hid hq3
          clear hq3
          have HM := Lib.hid (pmust_bad HR4.out 11 x2 HX2.out)
          have hP : Pr.rule ws width = .error (11, 2) := by unfold Pr.rule; rw [if_neg (by rw [HX0.out]; exact fun e => e HQ0.out), HX1.out, HNm.out, if_neg (by exact fun e => e HQ1.out), HX2.out, if_neg (by rw [HQ2.out]; simp), if_pos HQ.out]
          have HP := Lib.hid hP
          clear hP
          go_wp2_with fail
          refine HM.out.mono ?_
          rintro e wz ⟨rfl, hbz⟩
          have HF : Hid (RulePost ok rb v ws width w (.panicked [{ v := faultV 11 x2, recovered := false }]) wz) := by
            show RulePost _ _ _ _ _ _ _ _
            unfold RulePost
            rw [HP.out, ← HX2.out]
            exact ⟨rfl, (But.below HB0.out).trans (HB4.out.trans (But.below hbz))⟩
          clear hbz
          go_wp2_with fail
          exact ⟨rfl, HF.out⟩
        case pos =>
          have hqz : ((x2.t.size : Int) == width) = true := by simpa using hq3
          have HQ3 := Lib.hid hq3
          have HM3 := Lib.hid (pmust_ok HR4.out 11 x2 HX2.out (by omega))
          clear hq3
          go_wp2_with fail
          refine HM3.out.mono ?_
          rintro e w5 ⟨rfl, hr5, hb5⟩
          have HB5 : Hid (But (fun b => b = rb) W0 w5) := HB4.out.trans hb5
          have HR5 := Lib.hid hr5
          have hs5 : w.heap.size + 1 ≤ w5.heap.size := by have := HB5.out.size; have := HS0.out; omega
          have HAc := Lib.hid (action_rd hr5 (fun b hb => by have := HOk.out b hb; omega) (by omega) HZ.out)
          have hrl : Pr.rule ws width = match Pr.act ws 3 with
              | .error e => .error e
              | .ok (k, P, j) => if j < ws.length then .error (50, j) else .ok ⟨nm.1, x2.t, k, P⟩ := by
            unfold Pr.rule
            rw [if_neg (by rw [HX0.out]; exact fun e => e HQ0.out), HX1.out, HNm.out, if_neg (by exact fun e => e HQ1.out), HX2.out, if_neg (by rw [HQ2.out]; simp), if_neg (by exact fun e => e HQ3.out)]
            cases Pr.act ws 3 <;> rfl
          have HRl := Lib.hid hrl
          clear hr5 hb5 HM3 HR4 HB4 hrl c1 f1
          go_wp2_with fail
          refine HAc.out.mono ?_
          intro e w6 hpost
          unfold ActPost at hpost
          cases hA : Pr.act ws 3 with
          | error cj =>
            obtain ⟨c, j⟩ := cj
            rw [hA] at hpost
            obtain ⟨rfl, hb6⟩ := hpost
            have HF : Hid (RulePost ok rb v ws width w (.panicked [{ v := faultV c (Pr.wd ws j), recovered := false }]) w6) := by
              show RulePost _ _ _ _ _ _ _ _
              unfold RulePost
              rw [HRl.out, hA]
              exact ⟨rfl, (But.below HB0.out).trans (HB5.out.trans hb6)⟩
            clear hb6 hA
            go_wp2_with fail
            exact ⟨rfl, HF.out⟩
          | ok kPj =>
            obtain ⟨k, P, j⟩ := kPj
            rw [hA] at hpost
            obtain ⟨a, n, c, rfl, hro, hr6, hb6⟩ := hpost
            have hsm := Pr.act_small hA
            obtain ⟨W7, hW7⟩ : ∃ W7, W7 = w6.alloc (.cells #[.int .i64 nm.1, .string x2.t, .int .i64 k, .slice a n c] 47) := ⟨_, rfl⟩
            have hb7 : Below w6.heap.size w6 W7 := by rw [hW7]; exact (Below.refl _ _).alloc (Nat.le_refl _) _
            have hh7 : W7.heap[w6.heap.size]? = some (.cells #[.int .i64 nm.1, .string x2.t, .int .i64 k, .slice a n c] 47 (0, 0)) := by rw [hW7]; exact heap_alloc_new _ _
            have hbt7 : But (fun b => b = rb) W0 W7 := (HB5.out.trans hb6).trans (But.below hb7)
            have hN : w.heap.size < w6.heap.size := by have := hb6.size; omega
            have hhN : W7.heap[w.heap.size]? = some (.cells #[.int .i64 0, .string ⟨#[]⟩, .int .i64 0, .slice none 0 0] 47 (0, 0)) := (hbt7.block _ (by have := HS0.out; omega) (by omega)).trans HH0.out
            have hRC : RdC (fun b => w.heap.size + 1 ≤ b) W7 ⟨nm.1, x2.t, k, a, n, c⟩ ⟨nm.1, x2.t, k, P⟩ := ⟨rfl, rfl, rfl, (hro.below hb7).mono (fun b hb => by omega), ⟨by show x2.t.size ≤ _; omega, by show P.length * 16 ≤ _; omega, fun y hy => by have := hsm.2.1 y hy; omega⟩⟩
            have HR7 := Lib.hid (hr6.below hb7)
            have HBt7 := Lib.hid hbt7
            have HH7 := Lib.hid hh7
            have HHN := Lib.hid hhN
            have HRC := Lib.hid hRC
            have HW7 := Lib.hid hW7
            have HA := Lib.hid hA
            clear hro hr6 hb6 hW7 hb7 hh7 hbt7 hhN hRC hA HAc HR5
            go_upto_region 9 with fail
            rw [← HW7.out]
            clear HW7
            obtain ⟨adv, capv, hvv, _, _, _⟩ := id HR7.out.rd
            have c0 := HR7.out.c0
            have c1 := HR7.out.c1
            rw [hvv] at c0
            obtain ⟨nw, hnw⟩ : ∃ nw, ws.length = nw := ⟨_, rfl⟩
            rw [hnw] at c0
            have HNw := Lib.hid hnw
            clear hvv hnw
            by_cases hj : j < nw
            · have hjz : (j : Int) < (nw : Int) := by omega
              have hP : Pr.rule ws width = .error (50, j) := by rw [HRl.out, HA.out]; show (if j < ws.length then _ else _) = _; rw [if_pos (by rw [HNw.out]; exact hj)]
              have HP := Lib.hid hP
              clear hP
              go_wp2_with fail
              go_quiet (fail)
              go_upto_region 10 with fail
              obtain ⟨wq, hwq⟩ : ∃ wq, wq = W7.drewN nq := ⟨_, rfl⟩
              have hbq : Below W7.heap.size W7 wq := by rw [hwq]; exact below_dN (Below.refl _ _) nq
              rw [← hwq]
              have HBq := Lib.hid hbq
              have HM := Lib.hid (pmust_bad (HR7.out.below hbq) 50 (Pr.wd ws j) rfl)
              clear hwq hbq c0 c1
              go_wp2_with fail
              refine HM.out.mono ?_
              rintro e wz ⟨rfl, hbz⟩
              have HF : Hid (RulePost ok rb v ws width w (.panicked [{ v := faultV 50 (Pr.wd ws j), recovered := false }]) wz) := by
                show RulePost _ _ _ _ _ _ _ _
                unfold RulePost
                rw [HP.out]
                exact ⟨rfl, (But.below HB0.out).trans (HBt7.out.trans ((But.below HBq.out).trans (But.below hbz)))⟩
              clear hbz
              go_wp2_with fail
              exact ⟨rfl, HF.out⟩
            · have hjz : decide ((j : Int) < (nw : Int)) = false := by simp; omega
              have hP : Pr.rule ws width = .ok ⟨nm.1, x2.t, k, P⟩ := by rw [HRl.out, HA.out]; show (if j < ws.length then _ else _) = _; rw [if_neg (by rw [HNw.out]; exact hj)]
              have HP := Lib.hid hP
              clear hP
              go_wp2_with fail
              go_quiet (fail)
              go_upto_region 11 with fail
              obtain ⟨wq, hwq⟩ : ∃ wq, wq = W7.drewN nq := ⟨_, rfl⟩
              have hbq : Below W7.heap.size W7 wq := by rw [hwq]; exact below_dN (Below.refl _ _) nq
              have h8 : wq.heap[w6.heap.size]? = some (.cells #[.int .i64 nm.1, .string x2.t, .int .i64 k, .slice a n c] 47 (0, 0)) := by rw [hwq]; exact HH7.out
              have h9 : wq.heap[w.heap.size]? = some (.cells #[.int .i64 0, .string ⟨#[]⟩, .int .i64 0, .slice none 0 0] 47 (0, 0)) := by rw [hwq]; exact HHN.out
              rw [← hwq]
              have z0 : wq.cell? ⟨w6.heap.size, 0, none⟩ = some (.int .i64 nm.1) := by simp [World.cell?, h8]
              have z1 : wq.cell? ⟨w6.heap.size, 1, none⟩ = some (.string x2.t) := by simp [World.cell?, h8]
              have z2 : wq.cell? ⟨w6.heap.size, 2, none⟩ = some (.int .i64 k) := by simp [World.cell?, h8]
              have z3 : wq.cell? ⟨w6.heap.size, 3, none⟩ = some (.slice a n c) := by simp [World.cell?, h8]
              have t0 : wq.cell? ⟨w.heap.size, 0, none⟩ = some (.int .i64 0) := by simp [World.cell?, h9]
              have t1 : wq.cell? ⟨w.heap.size, 1, none⟩ = some (.string ⟨#[]⟩) := by simp [World.cell?, h9]
              have t2 : wq.cell? ⟨w.heap.size, 2, none⟩ = some (.int .i64 0) := by simp [World.cell?, h9]
              have t3 : wq.cell? ⟨w.heap.size, 3, none⟩ = some (.slice none 0 0) := by simp [World.cell?, h9]
              have g0 : wq.frozen? ⟨w.heap.size, 0, none⟩ = false := by simp [World.frozen?, h9]
              have g1 : wq.frozen? ⟨w.heap.size, 1, none⟩ = false := by simp [World.frozen?, h9]
              have g2 : wq.frozen? ⟨w.heap.size, 2, none⟩ = false := by simp [World.frozen?, h9]
              have g3 : wq.frozen? ⟨w.heap.size, 3, none⟩ = false := by simp [World.frozen?, h9]
              have HBq := Lib.hid hbq
              clear hwq hbq c0 c1 h8 h9
              go_wp2_with fail
              refine bodyPost_ret (res_rule _ w.heap.size _ nm.1 k x2.t a n c rfl ?_ ?_ ?_ ?_) rfl ?_
              · exact cell_setd2 (cell_setd2 (cell_setd2 (cell_set_same _ t0) (by simp)) (by simp)) (by simp)
              · exact cell_setd2 (cell_setd2 (cell_set_same _ (cell_setd2 t1 (by simp))) (by simp)) (by simp)
              · exact cell_setd2 (cell_set_same _ (cell_setd2 (cell_setd2 t2 (by simp)) (by simp))) (by simp)
              · exact cell_set_same _ (cell_setd2 (cell_setd2 (cell_setd2 t3 (by simp)) (by simp)) (by simp))
              unfold RulePost
              rw [HP.out]
              have hb1 : ∀ (W : World) (o : Nat) (u : Value), But (fun b => b = w.heap.size) W (W.setCell ⟨w.heap.size, o, none⟩ u) := fun W o u => But.set (S := fun b => b = w.heap.size) (a := ⟨w.heap.size, o, none⟩) rfl _
              have hbs := (((hb1 wq 0 (.int .i64 nm.1)).trans (hb1 _ 1 (.string x2.t))).trans (hb1 _ 2 (.int .i64 k))).trans (hb1 _ 3 (.slice a n c))
              refine ⟨⟨nm.1, x2.t, k, a, n, c⟩, rfl, ((HRC.out.below HBq.out).but hbs (fun b hb e => by omega)).mono (fun b hb => by omega), ⟨j, (HR7.out.below HBq.out).but hbs (fun e => by omega) (fun b hb e => by have := HOk.out b hb; omega)⟩, ?_⟩
              exact but_fresh ((But.below HB0.out).trans (HBt7.out.trans (But.below HBq.out))) hbs (fun b hb => by omega)
end Go.Proofs.YtlamhpiiikcpiaaGreatDoor
/-
  Walks over package rules: the deferred call of Parse.
-/
namespace Go.Proofs.YtlamhpiiikcpiaaGreatDoor
open Go.RowKit
set_option linter.unusedVariables false
set_option linter.unusedSimpArgs false
set_option maxHeartbeats 400000 in
set_option maxRecDepth 20000 in
theorem pcaught_idle (p q r : Addr) (w : World) :
    CallsD Tryz.prog 48 #[.pointer (some p), .pointer (some q), .pointer (some r)] .returning w fun e u' w' => e = .returned (.tuple #[]) ∧ u' = .returning ∧ w = w' := by
  refine callsD_of_wpS Tryz.func48 rfl fun c₀ cs hu => ?_
  simp only [Tryz.ntmps48, List.size_toArray, List.length_cons, List.length_nil, Nat.reduceAdd, Nat.reduceSub, Array.replicate_succ,
     Array.replicate_zero, List.push_toArray, List.append_toArray, List.nil_append, List.cons_append]
  apply wpS_seq
  apply wpS_region
  simp [wpOpsS, go_sem, recoverD, hu, Exit.thenS]
  have HU := Lib.hid hu
  clear hu
  apply wpS_of_wp
  generalize hQ : (fun e a' w' => bodyPostS _ _ _ _ _ e a' _ w') = Q
  have HQ := Lib.hid hQ
  clear hQ
  go_wp2_with fail
  rw [← HQ.out]
  exact ⟨rfl, _, by rw [← HU.out], .tuple #[], results_none rfl _ _ _, rfl, rfl, rfl⟩
theorem run_assert_pfault (x : Array Value) (w : World) :
    (Instr.typeAssert (.iface 169 (.agg x)) 20 169 true).run Tryz.prog w = .ok (.tuple #[.agg x, .bool true]) w := by
  kernel_rfl
set_option maxHeartbeats 1600000 in
set_option maxRecDepth 20000 in
theorem pcaught_catches (N : Nat) (w : World) (c : Int) (q : Wrd) (v0 v1 v2 : Value) (older : List PanicEntry) (hN : N + 2 < w.heap.size)
    (c0 : w.cell? ⟨N, 0, none⟩ = some v0) (c1 : w.cell? ⟨N + 1, 0, none⟩ = some v1) (c2 : w.cell? ⟨N + 2, 0, none⟩ = some v2)
    (z0 : w.frozen? ⟨N, 0, none⟩ = false) (z1 : w.frozen? ⟨N + 1, 0, none⟩ = false) (z2 : w.frozen? ⟨N + 2, 0, none⟩ = false) :
    CallsD Tryz.prog 48 #[.pointer (some ⟨N, 0, none⟩), .pointer (some ⟨N + 1, 0, none⟩), .pointer (some ⟨N + 2, 0, none⟩)] (.panicking ({ v := faultV c q, recovered := false } :: older)) w fun e u' w' =>
      e = .returned (.tuple #[]) ∧ u' = .panicking ({ v := faultV c q, recovered := true } :: older) ∧ Below N w w' ∧
      w'.cell? ⟨N, 0, none⟩ = some (.int .i64 q.l) ∧ w'.cell? ⟨N + 1, 0, none⟩ = some (.int .i64 q.c) ∧ w'.cell? ⟨N + 2, 0, none⟩ = some (.int .i64 c) := by
  have hta := run_assert_pfault #[.int .i64 c, .string q.t, .int .i64 q.l, .int .i64 q.c] w
  obtain ⟨W1, hW1⟩ : ∃ W1, W1 = w.alloc (.cells #[.int .i64 c, .string q.t, .int .i64 q.l, .int .i64 q.c] 169) := ⟨_, rfl⟩
  have hB : Below w.heap.size w W1 := by rw [hW1]; exact (Below.refl _ _).alloc (Nat.le_refl _) _
  have hf : ∀ o, o < w.heap.size → W1.frozen? ⟨o, 0, none⟩ = w.frozen? ⟨o, 0, none⟩ := fun o h => (But.below hB).frozen (S := fun _ => False) (p := ⟨o, 0, none⟩) h (fun h => h)
  have d0 := (hB.cell (p := ⟨N, 0, none⟩) (by show N < _; omega)).trans c0
  have d1 := (hB.cell (p := ⟨N + 1, 0, none⟩) (by show N + 1 < _; omega)).trans c1
  have d2 := (hB.cell (p := ⟨N + 2, 0, none⟩) (by show N + 2 < _; omega)).trans c2
  have y0 := (hf N (by omega)).trans z0
  have y1 := (hf (N + 1) (by omega)).trans z1
  have y2 := (hf (N + 2) (by omega)).trans z2
  have f0 : W1.cell? ⟨w.heap.size, 0, none⟩ = some (.int .i64 c) := by rw [hW1]; simp [go_sem]
  have f1 : W1.cell? ⟨w.heap.size, 1 + 1, none⟩ = some (.int .i64 q.l) := by rw [hW1]; simp [go_sem]
  have f2 : W1.cell? ⟨w.heap.size, 1 + 2, none⟩ = some (.int .i64 q.c) := by rw [hW1]; simp [go_sem]
  have HW1 := Lib.hid hW1
  have HB := Lib.hid hB
  clear hB hf c0 c1 c2 z0 z1 z2 hW1
  refine callsD_of_wpS Tryz.func48 rfl fun c₀ cs hu => ?_
  simp only [Tryz.ntmps48, List.size_toArray, List.length_cons, List.length_nil, Nat.reduceAdd, Nat.reduceSub, Array.replicate_succ,
     Array.replicate_zero, List.push_toArray, List.append_toArray, List.nil_append, List.cons_append]
  apply wpS_seq
  apply wpS_region
  simp [wpOpsS, go_sem, recoverD, hu, Exit.thenS]
  have HU := Lib.hid hu
  clear hu
  apply wpS_of_wp
  generalize hQ : (fun e a' w' => bodyPostS _ _ _ _ _ e a' _ w') = Q
  have HQ := Lib.hid hQ
  clear hQ
  go_upto_region 5 with fail
  rw [← HW1.out]
  have hk : W1.cell? ⟨w.heap.size, 0, none⟩ = some (.int .i64 c) ∧ W1.cell? ⟨w.heap.size, 1 + 1, none⟩ = some (.int .i64 q.l) ∧ W1.cell? ⟨w.heap.size, 1 + 2, none⟩ = some (.int .i64 q.c) := ⟨f0, f1, f2⟩
  have hky : ∀ (Wz : World) (g : Nat) (x : Value), g < w.heap.size → (Wz.cell? ⟨w.heap.size, 0, none⟩ = some (.int .i64 c) ∧ Wz.cell? ⟨w.heap.size, 1 + 1, none⟩ = some (.int .i64 q.l) ∧ Wz.cell? ⟨w.heap.size, 1 + 2, none⟩ = some (.int .i64 q.c)) → ((Wz.setCell ⟨g, 0, none⟩ x).cell? ⟨w.heap.size, 0, none⟩ = some (.int .i64 c) ∧ (Wz.setCell ⟨g, 0, none⟩ x).cell? ⟨w.heap.size, 1 + 1, none⟩ = some (.int .i64 q.l) ∧ (Wz.setCell ⟨g, 0, none⟩ x).cell? ⟨w.heap.size, 1 + 2, none⟩ = some (.int .i64 q.c)) := fun Wz g x hg h =>
    ⟨cell_setd (by show g ≠ w.heap.size; omega) h.1, cell_setd (by show g ≠ w.heap.size; omega) h.2.1, cell_setd (by show g ≠ w.heap.size; omega) h.2.2⟩
  go_region_held3 (fun Wx => Wx.cell? ⟨w.heap.size, 0, none⟩ = some (.int .i64 c) ∧ Wx.cell? ⟨w.heap.size, 1 + 1, none⟩ = some (.int .i64 q.l) ∧ Wx.cell? ⟨w.heap.size, 1 + 2, none⟩ = some (.int .i64 q.c)) (first | exact hk | exact hky _ _ _ (by omega) hk | exact hky _ _ _ (by omega) (hky _ _ _ (by omega) hk) | exact hky _ _ _ (by omega) (hky _ _ _ (by omega) (hky _ _ _ (by omega) hk)) | go_keep) (fail)
  all_goals
    go_wp2_with fail
    rw [← HQ.out]
    refine ⟨rfl, _, rfl, .tuple #[], results_none rfl _ _ _, rfl, rfl, ?_⟩
    have k1 := cell_set_same (.int .i64 q.l) d0
    have k2 := cell_set_same (w := W1.setCell ⟨N, 0, none⟩ (.int .i64 q.l)) (a := ⟨N + 1, 0, none⟩) (.int .i64 q.c) (cell_setd (by show N ≠ N + 1; omega) d1)
    have k3 := cell_set_same (w := (W1.setCell ⟨N, 0, none⟩ (.int .i64 q.l)).setCell ⟨N + 1, 0, none⟩ (.int .i64 q.c)) (a := ⟨N + 2, 0, none⟩) (.int .i64 c) (cell_setd (by show N + 1 ≠ N + 2; omega) (cell_setd (by show N ≠ N + 2; omega) d2))
    refine ⟨?_, ?_, ?_, k3⟩
    · exact Below.drew ((((HB.out.mono (show N ≤ w.heap.size by omega)).setCell (p := ⟨N, 0, none⟩) (Nat.le_refl _) _).setCell (p := ⟨N + 1, 0, none⟩) (by show N ≤ N + 1; omega) _).setCell (p := ⟨N + 2, 0, none⟩) (by show N ≤ N + 2; omega) _)
    · exact cell_setd (by show N + 2 ≠ N; omega) (cell_setd (by show N + 1 ≠ N; omega) k1)
    · exact cell_setd (by show N + 2 ≠ N + 1; omega) k2
/-- Behind a body that returned. -/
theorem pdoor_ret {fn : Func} {tmps : Array Value} {R : Ending → World → Prop} {a b c : Addr} {W : World} (h : ∃ v, (results fn tmps).run Tryz.prog W = .ok v W ∧ R (.returned v) W) :
    Leaves Tryz.prog fn tmps R [{ target := .fn (.func 48) #[], args := #[.pointer (some a), .pointer (some b), .pointer (some c)] }] .returning W := by
  refine leaves_cons (f := 48) (args := #[.pointer (some a), .pointer (some b), .pointer (some c)]) (by simp) (by simp [go_sem]) ?_
  refine (pcaught_idle _ _ _ _).mono ?_
  rintro e u' w'' ⟨rfl, rfl, rfl⟩
  exact h
/-- Behind a body that panicked with a fault of the package: its place and its code are laid. -/
theorem pdoor_fault {fn : Func} {tmps : Array Value} {R : Ending → World → Prop} {N : Nat} {W : World} (c : Int) (q : Wrd) (v0 v1 v2 : Value) (hN : N + 2 < W.heap.size)
    (c0 : W.cell? ⟨N, 0, none⟩ = some v0) (c1 : W.cell? ⟨N + 1, 0, none⟩ = some v1) (c2 : W.cell? ⟨N + 2, 0, none⟩ = some v2)
    (z0 : W.frozen? ⟨N, 0, none⟩ = false) (z1 : W.frozen? ⟨N + 1, 0, none⟩ = false) (z2 : W.frozen? ⟨N + 2, 0, none⟩ = false)
    (h : ∀ W', Below N W W' → W'.cell? ⟨N, 0, none⟩ = some (.int .i64 q.l) → W'.cell? ⟨N + 1, 0, none⟩ = some (.int .i64 q.c) → W'.cell? ⟨N + 2, 0, none⟩ = some (.int .i64 c) → ∃ v, (results fn tmps).run Tryz.prog W' = .ok v W' ∧ R (.returned v) W') :
    Leaves Tryz.prog fn tmps R [{ target := .fn (.func 48) #[], args := #[.pointer (some ⟨N, 0, none⟩), .pointer (some ⟨N + 1, 0, none⟩), .pointer (some ⟨N + 2, 0, none⟩)] }] (.panicking [{ v := faultV c q, recovered := false }]) W := by
  refine leaves_cons (f := 48) (args := #[.pointer (some ⟨N, 0, none⟩), .pointer (some ⟨N + 1, 0, none⟩), .pointer (some ⟨N + 2, 0, none⟩)]) (by simp) (by simp [go_sem]) ?_
  refine (pcaught_catches N W c q v0 v1 v2 [] hN c0 c1 c2 z0 z1 z2).mono ?_
  rintro e u' w'' ⟨rfl, rfl, hB, h1, h2, h3⟩
  exact h w'' hB h1 h2 h3
end Go.Proofs.YtlamhpiiikcpiaaGreatDoor
