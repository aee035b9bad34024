/-
  Walks over package words: a line is read.
-/
import Derived.Test.YtfnfmkejkgiclaaDoorWdA
import Derived.Test.YtfnfmkejkgiclaaDoorWdLawB
import Derived.Test.YtfnfmkejkgiclaaDoorRul
import Derived.Deep.RegionHeld3
import Derived.Deep.AppendLies
import Derived.Deep.RegionLaw
import Derived.StillTailTactics
import Derived.Test.YtfnfmkejkgiclaaDoorHeld
namespace Go.Proofs.YtfnfmkejkgiclaaDoor
open Go.RowKit
set_option linter.unusedVariables false
set_option linter.unusedSimpArgs false

def encW (x : Wrd) : List Value := [.string x.t, .int .i64 x.l, .int .i64 x.c]
def cellsW (l : List Wrd) : List Value := l.flatMap encW
theorem cellsW_nil : cellsW [] = [] := rfl
theorem cellsW_append (a b : List Wrd) : cellsW (a ++ b) = cellsW a ++ cellsW b := by simp [cellsW]
theorem cellsW_one (x : Wrd) : cellsW [x] = encW x := by simp [cellsW]
theorem cellsW_length : ∀ (l : List Wrd), (cellsW l).length = l.length * 3
  | [] => rfl
  | x :: l => by
    have := cellsW_length l
    simp only [cellsW, List.flatMap_cons, List.length_append, List.length_cons] at this ⊢
    rw [this]
    simp [encW]
    omega
theorem infoW : (Tryd.prog.info? 41).map (fun i => (i.zero, i.size, i.bytes)) = some (some (.agg #[.string ⟨#[]⟩, .int .i64 0, .int .i64 0]), 3, 32) := by kernel_rfl


/-- A number that lies in a cell. -/
def cellN (w : World) (a : Addr) : Nat := match w.cell? a with | some v => (intOf v).toNat | none => 0

/-- A reader: its line's number, the place that it has come to, its line, its words. -/
structure RdSt (b num x : Nat) (s : ByteArray) (v : Value) (w : World) : Prop where
  c0 : w.cell? ⟨b, 0, none⟩ = some (.int .i64 num)
  c1 : w.cell? ⟨b, 1, none⟩ = some (.int .i64 x)
  c2 : w.cell? ⟨b, 2, none⟩ = some (.string s)
  c3 : w.cell? ⟨b, 3, none⟩ = some v
  f1 : w.frozen? ⟨b, 1, none⟩ = false
  f3 : w.frozen? ⟨b, 3, none⟩ = false
  lt : b < w.heap.size

theorem RdSt.below {b num x : Nat} {s : ByteArray} {v : Value} {w w' : World} (h : RdSt b num x s v w) (hb : Below w.heap.size w w') : RdSt b num x s v w' := by
  have hf : ∀ o, w'.frozen? ⟨b, o, none⟩ = w.frozen? ⟨b, o, none⟩ := fun o => (But.below hb).frozen (S := fun _ => False) (p := ⟨b, o, none⟩) h.lt (fun h => h)
  exact ⟨(hb.cell (p := ⟨b, 0, none⟩) h.lt).trans h.c0, (hb.cell (p := ⟨b, 1, none⟩) h.lt).trans h.c1, (hb.cell (p := ⟨b, 2, none⟩) h.lt).trans h.c2, (hb.cell (p := ⟨b, 3, none⟩) h.lt).trans h.c3, (hf 1).trans h.f1, (hf 3).trans h.f3, Nat.lt_of_lt_of_le h.lt hb.size⟩

theorem RdSt.step {b num x : Nat} {s : ByteArray} {v : Value} {w : World} (h : RdSt b num x s v w) (y : Nat) : RdSt b num y s v (w.setCell ⟨b, 1, none⟩ (.int .i64 y)) :=
  ⟨(cell_set_other _ (by simp)).trans h.c0, cell_set_same _ h.c1, (cell_set_other _ (by simp)).trans h.c2, (cell_set_other _ (by simp)).trans h.c3, by rw [World.frozen?_setCell]; exact h.f1, by rw [World.frozen?_setCell]; exact h.f3, by simpa [World.setCell] using h.lt⟩

theorem RdSt.put {b num x : Nat} {s : ByteArray} {v : Value} {w : World} (h : RdSt b num x s v w) (v' : Value) : RdSt b num x s v' (w.setCell ⟨b, 3, none⟩ v') :=
  ⟨(cell_set_other _ (by simp)).trans h.c0, (cell_set_other _ (by simp)).trans h.c1, (cell_set_other _ (by simp)).trans h.c2, cell_set_same _ h.c3, by rw [World.frozen?_setCell]; exact h.f1, by rw [World.frozen?_setCell]; exact h.f3, by simpa [World.setCell] using h.lt⟩

/-- What a reader has come to. -/
structure RdIn (b num : Nat) (s : ByteArray) (w : World) (x : Nat) (pre : List Wrd) (v : Value) (wr : World) : Prop where
  st : RdSt b num x s v wr
  le : x ≤ s.size
  own : wr.ownsRow w.heap.size 41 3 v pre.length (cellsW pre)
  few : pre.length ≤ x
  eq : Wd.line num s.data.toList 0 = (Wd.line num (s.data.toList.drop x) x).map (pre ++ ·)
  but : But (fun k => k = b ∨ w.heap.size ≤ k) w wr
  lt : b < w.heap.size

/-- What reading a line leaves. -/
def ReadPost (b num : Nat) (s : ByteArray) (w : World) (e : Ending) (w' : World) : Prop :=
  match Wd.line num s.data.toList 0 with
  | .ok ws => e = .returned (.tuple #[]) ∧ ∃ v, w'.cell? ⟨b, 3, none⟩ = some v ∧ w'.ownsRow w.heap.size 41 3 v ws.length (cellsW ws) ∧ But (fun k => k = b) w w'
  | .error p => e = .panicked [{ v := .iface 49 (.agg #[.int .i64 num, .int .i64 ((p : Int) + 1)]), recovered := false }] ∧ But (fun k => k = b) w w'

theorem But.less {S T : Nat → Prop} {w w' : World} (h : But S w w') (hs : ∀ k, k < w.heap.size → S k → T k) : But T w w' := ⟨h.os, h.tape, h.output, h.size, fun k hk ht => h.block k hk (fun hn => ht (hs k hk hn))⟩

theorem RdIn.done {b num : Nat} {s : ByteArray} {w : World} {x : Nat} {pre : List Wrd} {v : Value} {wr : World} (h : RdIn b num s w x pre v wr) (hl : Wd.line num (s.data.toList.drop x) x = .ok []) : ReadPost b num s w (.returned (.tuple #[])) wr := by
  unfold ReadPost
  rw [h.eq, hl]
  simp only [Except.map, List.append_nil]
  refine ⟨?_, v, h.st.c3, h.own, h.but.less fun k hk hs => hs.elim id (fun h => by omega)⟩
  first | rfl | trivial

theorem RdIn.bad {b num : Nat} {s : ByteArray} {w : World} {x : Nat} {pre : List Wrd} {v : Value} {wr : World} (h : RdIn b num s w x pre v wr) (hl : Wd.line num (s.data.toList.drop x) x = .error x) {e : Ending} (he : e = .panicked [{ v := .iface 49 (.agg #[.int .i64 num, .int .i64 ((x : Int) + 1)]), recovered := false }]) {w2 : World} (hb : Below wr.heap.size wr w2) : ReadPost b num s w e w2 := by
  unfold ReadPost
  rw [h.eq, hl]
  simp only [Except.map]
  exact ⟨he, (h.but.trans (But.below hb)).less fun k hk hs => hs.elim id (fun h => by omega)⟩

theorem RdSt.drewN {b num x : Nat} {s : ByteArray} {v : Value} {w : World} (h : RdSt b num x s v w) (k : Nat) : RdSt b num x s v (w.drewN k) := ⟨h.c0, h.c1, h.c2, h.c3, h.f1, h.f3, h.lt⟩
theorem RdIn.drewN {b num : Nat} {s : ByteArray} {w : World} {x : Nat} {pre : List Wrd} {v : Value} {wr : World} (h : RdIn b num s w x pre v wr) (k : Nat) : RdIn b num s w x pre v (wr.drewN k) :=
  ⟨h.st.drewN k, h.le, h.own, h.few, h.eq, ⟨h.but.os, h.but.tape, h.but.output, h.but.size, h.but.block⟩, h.lt⟩

theorem RdIn.blank {b num : Nat} {s : ByteArray} {w : World} {x : Nat} {pre : List Wrd} {v : Value} {wr : World} (h : RdIn b num s w x pre v wr) (hx : x < s.size) (hc : s[x] = 32 ∨ s[x] = 9) : RdIn b num s w (x + 1) pre v (wr.setCell ⟨b, 1, none⟩ (.int .i64 ((x : Int) + 1))) := by
  have hd : s.data.toList.drop x = s[x] :: s.data.toList.drop (x + 1) := by
    rw [List.drop_eq_getElem_cons (by simpa using hx)]; rfl
  refine ⟨h.st.step (x + 1), by omega, ownsRow_setCell_below h.own ?_ _, by have := h.few; omega, by rw [h.eq, hd, Wd.line_blank _ _ _ _ hc], h.but.trans ((But.set (S := fun k => k = b ∨ w.heap.size ≤ k) (a := ⟨b, 1, none⟩) (.inl rfl) _)), h.lt⟩
  exact h.lt

theorem ownsRow_slice {w : World} {b : Nat} {e : TypeId} {k : Nat} {v : Value} {n : Nat} {xs : List Value} (h : w.ownsRow b e k v n xs) : ∃ ad cap, v = .slice ad n cap ∧ ∀ a, ad = some a → b ≤ a.block ∧ v.ownBlock = some a.block := by
  rcases h.2 with ⟨h1, h2⟩ | ⟨g, cap, cur, hv, hg, _⟩
  · exact ⟨none, 0, by rw [h1, h2], fun a h => by cases h⟩
  · exact ⟨_, cap, hv, fun a h => by injection h with h; subst h; exact ⟨hg, by rw [hv]; rfl⟩⟩

theorem RdIn.kept {b num : Nat} {s : ByteArray} {w : World} {x : Nat} {pre : List Wrd} {v : Value} {wr : World} (h : RdIn b num s w x pre v wr) {W1 W0 : World} (hW0 : Below wr.heap.size wr W0) (hg : W0.grownBy W1 v.ownBlock) : RdSt b num x s v W1 ∧ But (fun k => v.ownBlock = some k) wr W1 := by
  have hbut : But (fun k => v.ownBlock = some k) W0 W1 := ⟨hg.os, hg.tape, hg.output, hg.size, fun k hk hn => hg.block k hk (fun e => hn e.symm)⟩
  have hno : ¬ v.ownBlock = some b := by
    obtain ⟨ad', cap', hv, ha⟩ := ownsRow_slice h.own
    intro e
    cases ad' with
    | none => rw [hv] at e; cases e
    | some a =>
      obtain ⟨h1, h2⟩ := ha a rfl
      rw [h2] at e
      injection e with e
      have := h.lt
      omega
  have hall : But (fun k => v.ownBlock = some k) wr W1 := (But.below hW0).trans hbut
  have cell : ∀ o, W1.cell? ⟨b, o, none⟩ = wr.cell? ⟨b, o, none⟩ := fun o => hall.cell (p := ⟨b, o, none⟩) h.st.lt hno
  have froz : ∀ o, W1.frozen? ⟨b, o, none⟩ = wr.frozen? ⟨b, o, none⟩ := fun o => hall.frozen (p := ⟨b, o, none⟩) h.st.lt hno
  exact ⟨⟨(cell 0).trans h.st.c0, (cell 1).trans h.st.c1, (cell 2).trans h.st.c2, (cell 3).trans h.st.c3, (froz 1).trans h.st.f1, (froz 3).trans h.st.f3, Nat.lt_of_lt_of_le h.st.lt hall.size⟩, hall⟩

theorem RdIn.word {b num : Nat} {s : ByteArray} {w : World} {x : Nat} {pre : List Wrd} {v : Value} {wr : World} (h : RdIn b num s w x pre v wr) {n : Nat} (hn : Wd.size (s.data.toList.drop x) = n) (hx : x < s.size) (h35 : ¬ s[x] = 35) (hb : ¬ (s[x] = 32 ∨ s[x] = 9)) (hn0 : n ≠ 0)
    {W1 W0 : World} {ad : Addr} {cap : Nat} (hW0 : Below wr.heap.size wr W0) (hg : W0.grownBy W1 v.ownBlock)
    (ho : W1.ownsRow w.heap.size 41 3 (.slice (some ad) (pre.length + 1) cap) (pre.length + 1) (cellsW pre ++ [.string (s.extract x (x + n)), .int .i64 num, .int .i64 ((x : Int) + 1)])) :
    RdSt b num x s (.slice (some ad) (pre.length + 1) cap) (W1.setCell ⟨b, 3, none⟩ (.slice (some ad) (pre.length + 1) cap)) ∧
    RdIn b num s w (x + n) (pre ++ [⟨s.extract x (x + n), num, x + 1⟩]) (.slice (some ad) (pre.length + 1) cap) ((W1.setCell ⟨b, 3, none⟩ (.slice (some ad) (pre.length + 1) cap)).setCell ⟨b, 1, none⟩ (.int .i64 ((x + n : Nat) : Int))) := by
  obtain ⟨st1, hall⟩ := h.kept hW0 hg
  have st2 := st1.put (.slice (some ad) (pre.length + 1) cap)
  have hd : s.data.toList.drop x = s[x] :: s.data.toList.drop (x + 1) := by
    rw [List.drop_eq_getElem_cons (by simpa using hx)]; rfl
  have hsz := Wd.size_le (s.data.toList.drop x) (by rw [hd]; simp)
  rw [hn, List.length_drop, ← Lib.size_eq] at hsz
  refine ⟨st2, st2.step (x + n), by omega, ?_, ?_, ?_, ?_, h.lt⟩
  · rw [List.length_append, List.length_singleton, cellsW_append, cellsW_one]
    exact ownsRow_setCell_below (ownsRow_setCell_below ho h.lt _) h.lt _
  · rw [List.length_append, List.length_singleton]; have := h.few; omega
  · have hw := Wd.line_word num x s[x] (s.data.toList.drop (x + 1)) h35 hb (by rw [← hd, hn]; exact hn0)
    rw [← hd, hn, List.drop_drop] at hw
    rw [h.eq, hw]
    have hmk : Wd.mkB ((s.data.toList.drop x).take n) = s.extract x (x + n) := by
      rw [← Wd.mkB_of (s.extract x (x + n)), Lib.extract_data, show x + n - x = n by omega]
    rw [hmk]
    cases Wd.line num (s.data.toList.drop (x + n)) (x + n) <;> simp [Except.map]
  · refine (h.but.trans (hall.mono fun k hk => .inr ?_)).trans (((But.set (S := fun k => k = b ∨ w.heap.size ≤ k) (a := ⟨b, 3, none⟩) (.inl rfl) _)).trans ((But.set (S := fun k => k = b ∨ w.heap.size ≤ k) (a := ⟨b, 1, none⟩) (.inl rfl) _)))
    obtain ⟨ad', cap', hv, ha⟩ := ownsRow_slice h.own
    cases ad' with
    | none => rw [hv] at hk; cases hk
    | some a =>
      obtain ⟨h1, h2⟩ := ha a rfl
      rw [h2] at hk
      injection hk with hk
      omega

theorem byte_test (c d : UInt8) (q : Bool) (h : (c == d) = q) : (((c.toNat : Nat) : Int) == ((d.toNat : Nat) : Int)) = q := by
  subst h
  exact u8_eq _ _

set_option maxHeartbeats 16000000 in
set_option maxRecDepth 20000 in
theorem read_any (b num : Nat) (s : ByteArray) (w : World) (hs : s.size ≤ 1048576) (h : RdSt b num 0 s (.slice none 0 0) w) :
    Calls Tryd.prog 24 #[.pointer (some ⟨b, 0, none⟩)] w (ReadPost b num s w) := by
  have H0 : Hid (RdIn b num s w 0 [] (.slice none 0 0) w) := ⟨h, Nat.zero_le _, World.ownsRow_nil _ _ _ _, Nat.le_refl _, by simp [Except.map]; cases Wd.line num s.data.toList 0 <;> rfl, But.refl _ _, h.lt⟩
  clear h
  go_enter Tryd.func24, Tryd.ntmps24
  go_wp2_with fail
  go_loopw [3] (fun n wr => ∃ x pre v, Hid (RdIn b num s w x pre v wr)) (fun n wr => s.size - cellN wr ⟨b, 1, none⟩)
  case atStart => exact ⟨0, [], _, H0⟩
  case round =>
    obtain ⟨x, pre, v, hr⟩ := hrel
    obtain ⟨c0, c1, c2, c3, f1, f3, lt⟩ := hr.out.st
    have hle := hr.out.le
    have hm : cellN wr ⟨b, 1, none⟩ = x := by unfold cellN; rw [c1]; simp [intOf]
    have HM := Lib.hid hm
    have hx0 : (0 : Int) ≤ (x : Int) := by omega
    clear hm
    by_cases hx : x < s.size
    · have hd : s.data.toList.drop x = s[x] :: s.data.toList.drop (x + 1) := by
        rw [List.drop_eq_getElem_cons (by simpa using hx)]; rfl
      have HD := Lib.hid hd
      have hxz : (x : Int) < (s.size : Int) := by omega
      clear hd
      by_cases h35 : s[x] = 35
      · have HE : Hid (Wd.line num (s.data.toList.drop x) x = .ok []) := by show _ = _; rw [HD.out, h35, Wd.line_hash]
        have t1 : (((s[x].toNat : Nat) : Int) == 35) = true := byte_test _ 35 _ (by simp [h35])
        have t2 : (((s[x].toNat : Nat) : Int) != 35) = false := by rw [bne, t1]; rfl
        clear h35
        go_wp2_with fail
        go_quiet (fail)
        go_wp2_with fail
        go_end0
        exact (hr.out.drewN _).done HE.out
      · have t1 : (((s[x].toNat : Nat) : Int) == 35) = false := byte_test _ 35 _ (by simp [h35])
        have t2 : (((s[x].toNat : Nat) : Int) != 35) = true := by rw [bne, t1]; rfl
        have H35 := Lib.hid h35
        clear h35
        by_cases hb : s[x] = 32 ∨ s[x] = 9
        · have HS : Hid (∀ k, Calls Tryd.prog 38 #[.pointer (some ⟨b, 0, none⟩), .int .i64 1] (wr.drewN k) fun e w' => e = .returned (.tuple #[]) ∧ ∃ W, RdIn b num s w (x + 1) pre v W ∧ w' = W) := fun k =>
            (step_any b x 1 (wr.drewN k) hx0 (by omega) (by omega) c1 f1).mono (by rintro e w' ⟨rfl, rfl⟩; exact ⟨rfl, _, (hr.out.drewN k).blank hx hb, rfl⟩)
          have hor : (((s[x].toNat : Nat) : Int) == 32) = true ∨ ((((s[x].toNat : Nat) : Int) == 32) = false ∧ (((s[x].toNat : Nat) : Int) == 9) = true) := by
            by_cases h32 : s[x] = 32
            · exact .inl (byte_test _ 32 _ (by simp [h32]))
            · exact .inr ⟨byte_test _ 32 _ (by simp [h32]), byte_test _ 9 _ (by simpa [h32] using hb)⟩
          clear hb
          rcases hor with h32 | ⟨h32, h9⟩
          all_goals
            go_wp2_with fail
            go_quiet (fail)
            go_wp2_with fail
            go_quiet (fail)
            go_wp2_with fail
            refine (HS.out _).mono ?_
            rintro e w' ⟨rfl, W, hW, rfl⟩
            have HW := Lib.hid hW
            have HM2 : Hid (cellN w' ⟨b, 1, none⟩ = x + 1) := by show _ = _; unfold cellN; rw [hW.st.c1]; simp [intOf]
            clear hW
            go_wp2_with fail
            go_roundw
            case rel => exact ⟨x + 1, pre, v, HW⟩
            case measure => rw [HM.out, HM2.out]; omega
        · obtain ⟨n, hn⟩ : ∃ n, Wd.size (s.data.toList.drop x) = n := ⟨_, rfl⟩
          have HZ : Hid (∀ k, Calls Tryd.prog 39 #[.pointer (some ⟨b, 0, none⟩)] (wr.drewN k) fun e w' => e = .returned (.int .i64 n) ∧ ∃ W, RdIn b num s w x pre v W ∧ w' = W) := fun k =>
            (size_any b x s (wr.drewN k) hx hs c1 c2).mono (by rintro e w' ⟨rfl, k', rfl⟩; rw [hn]; exact ⟨rfl, _, (hr.out.drewN k).drewN k', rfl⟩)
          have h32 : (((s[x].toNat : Nat) : Int) == 32) = false := byte_test _ 32 _ (by simp; exact fun h => hb (.inl h))
          have h9 : (((s[x].toNat : Nat) : Int) == 9) = false := byte_test _ 9 _ (by simp; exact fun h => hb (.inr h))
          have HN := Lib.hid hn
          have HB := Lib.hid hb
          have hns : n ≤ s.size - x := by
            have := Wd.size_le (s.data.toList.drop x) (by rw [HD.out]; simp)
            rw [hn, List.length_drop, ← Lib.size_eq] at this
            exact this
          clear hn hb
          go_wp2_with fail
          go_quiet (fail)
          go_wp2_with fail
          go_quiet (fail)
          go_wp2_with fail
          refine (HZ.out _).mono ?_
          rintro e w' ⟨rfl, W, hW, rfl⟩
          clear c0 c1 c2 c3 f1 f3 lt t1 t2 h32 h9
          have HW := Lib.hid hW
          obtain ⟨c0, c1, c2, c3, f1, f3, lt⟩ := hW.st
          clear hW
          by_cases hn0 : n = 0
          · subst hn0
            have HE : Hid (Wd.line num (s.data.toList.drop x) x = .error x) := by
              show _ = _
              rw [HD.out, Wd.line_bad _ _ _ _ H35.out HB.out (by rw [← HD.out]; exact HN.out)]
            go_wp2_with fail
            have hw1 : IntKind.i64.wrap ((x : Int) + 1) = (x : Int) + 1 := IntWalk.i64_in _ (by omega)
            go_still_tail 13, (by kernel_rfl)
            refine wpList_plain rfl fun K hK => ?_
            unfold Oper.wp
            simp [execOp, Act.eval, run_panic_iface]
            refine ⟨rfl, ?_⟩
            exact HW.out.bad HE.out rfl ⟨rfl, rfl, rfl, Nat.le_refl _, fun _ _ => rfl⟩
          · have hnz : ((n : Int) == 0) = false := by simpa using hn0
            obtain ⟨ad, cp, rfl, _⟩ := ownsRow_slice HW.out.own
            obtain ⟨i0, hi, hz0, hz1, hz2⟩ := info_parts infoW
            have hfew := HW.out.few
            have hWd : Hid (∀ (W0 W1 : World) (g cap : Nat), Below w'.heap.size w' W0 → W0.grownBy W1 (Value.slice ad pre.length cp).ownBlock → W1.ownsRow w.heap.size 41 3 (.slice (some ⟨g, 0, none⟩) (pre.length + 1) cap) (pre.length + 1) (cellsW pre ++ [.string (s.extract x (x + n)), .int .i64 num, .int .i64 ((x : Int) + 1)]) →
                RdSt b num x s (.slice (some ⟨g, 0, none⟩) (pre.length + 1) cap) (W1.setCell ⟨b, 3, none⟩ (.slice (some ⟨g, 0, none⟩) (pre.length + 1) cap)) ∧
                RdIn b num s w (x + n) (pre ++ [⟨s.extract x (x + n), num, x + 1⟩]) (.slice (some ⟨g, 0, none⟩) (pre.length + 1) cap) ((W1.setCell ⟨b, 3, none⟩ (.slice (some ⟨g, 0, none⟩) (pre.length + 1) cap)).setCell ⟨b, 1, none⟩ (.int .i64 ((x + n : Nat) : Int)))) :=
              fun W0 W1 g cap h1 h2 h3 => HW.out.word HN.out hx H35.out HB.out hn0 h1 h2 h3
            have HK : Hid (∀ (W0 W1 : World), Below w'.heap.size w' W0 → W0.grownBy W1 (Value.slice ad pre.length cp).ownBlock → W1.cell? ⟨b, 0, none⟩ = some (.int .i64 num) ∧ W1.cell? ⟨b, 1, none⟩ = some (.int .i64 x) ∧ W1.cell? ⟨b, 2, none⟩ = some (.string s) ∧ W1.cell? ⟨b, 3, none⟩ = some (.slice ad pre.length cp) ∧ W1.frozen? ⟨b, 3, none⟩ = false) := fun W0 W1 h1 h2 => have hk := (HW.out.kept h1 h2).1; ⟨hk.c0, hk.c1, hk.c2, hk.c3, hk.f3⟩
            have hi1 : IntKind.i64.wrap ((x : Int) + 1) = (x : Int) + 1 := IntWalk.i64_in _ (by omega)
            have hi2 : IntKind.i64.wrap ((x : Int) + (n : Int)) = (x : Int) + (n : Int) := IntWalk.i64_in _ (by omega)
            have hi3 : (0 : Int) ≤ (x : Int) + (n : Int) := by omega
            have hi4 : ((x : Int) + (n : Int)).toNat = x + n := by omega
            have hi5 : (x : Int) + (n : Int) ≤ (s.size : Int) := by omega
            have hi6 : (x : Int) ≤ (x : Int) + (n : Int) := by omega
            go_wp2_with fail
            have hS0 : (fun W : World => W.cell? ⟨b, 0, none⟩ = some (.int .i64 num) ∧ W.cell? ⟨b, 1, none⟩ = some (.int .i64 x) ∧ W.cell? ⟨b, 2, none⟩ = some (.string s) ∧ W.cell? ⟨b, 3, none⟩ = some (.slice ad pre.length cp)) w'.drew := ⟨c0, c1, c2, c3⟩
            refine wp_region_heldG (fun W : World => W.cell? ⟨b, 0, none⟩ = some (.int .i64 num) ∧ W.cell? ⟨b, 1, none⟩ = some (.int .i64 x) ∧ W.cell? ⟨b, 2, none⟩ = some (.string s) ∧ W.cell? ⟨b, 3, none⟩ = some (.slice ad pre.length cp)) 38 (by kernel_rfl) ?_
            refine wpAnyG_takeP 0 (v := ?v0) rfl (by kernel_rfl) (fun _ _ _ h => h) (by rfl) ?h0 hS0 ?_
            case h0 => (intro wl; go_simp; try with_reducible rfl)
            try simp only [Act.put, List.setIfInBounds_toArray, List.set_cons_zero, List.set_cons_succ]
            refine wpAnyG_takeP 1 (v := ?v1) rfl (by kernel_rfl) (fun _ _ _ h => h) (by rfl) ?h1 hS0 ?_
            case h1 => (intro wl; go_simp; try with_reducible rfl)
            try simp only [Act.put, List.setIfInBounds_toArray, List.set_cons_zero, List.set_cons_succ]
            refine wpAnyG_takeP 2 (v := ?v2) rfl (by kernel_rfl) (fun _ _ _ h => h) (by rfl) ?h2 hS0 ?_
            case h2 => (intro wl; go_simp; try with_reducible rfl)
            try simp only [Act.put, List.setIfInBounds_toArray, List.set_cons_zero, List.set_cons_succ]
            refine wpAnyG_takeP 3 (v := ?v3) rfl (by kernel_rfl) (fun _ _ _ h => h) (by rfl) ?h3 hS0 ?_
            case h3 => (intro wl; go_simp; try with_reducible rfl)
            try simp only [Act.put, List.setIfInBounds_toArray, List.set_cons_zero, List.set_cons_succ]
            refine wpAnyG_takeL 4 (v := ?v4) rfl (by kernel_rfl) (fun _ _ _ h => h) (by rfl) ?h4 hS0 ?_
            case h4 => (intro wl hl; obtain ⟨l0, l1, l2, l3⟩ := hl; go_simp; try with_reducible rfl)
            try simp only [Act.put, List.setIfInBounds_toArray, List.set_cons_zero, List.set_cons_succ]
            refine wpAnyG_takeP 5 (v := ?v5) rfl (by kernel_rfl) (fun _ _ _ h => h) (by rfl) ?h5 hS0 ?_
            case h5 => (intro wl; go_simp; try with_reducible rfl)
            try simp only [Act.put, List.setIfInBounds_toArray, List.set_cons_zero, List.set_cons_succ]
            refine wpAnyG_takeP 6 (v := ?v6) rfl (by kernel_rfl) (fun _ _ _ h => h) (by rfl) ?h6 hS0 ?_
            case h6 => (intro wl; go_simp; try with_reducible rfl)
            try simp only [Act.put, List.setIfInBounds_toArray, List.set_cons_zero, List.set_cons_succ]
            refine wpAnyG_takeP 7 (v := ?v7) rfl (by kernel_rfl) (fun _ _ _ h => h) (by rfl) ?h7 hS0 ?_
            case h7 => (intro wl; go_simp; try with_reducible rfl)
            try simp only [Act.put, List.setIfInBounds_toArray, List.set_cons_zero, List.set_cons_succ]
            refine wpAnyG_takeL 8 (v := ?v8) rfl (by kernel_rfl) (fun _ _ _ h => h) (by rfl) ?h8 hS0 ?_
            case h8 => (intro wl hl; obtain ⟨l0, l1, l2, l3⟩ := hl; go_simp; try with_reducible rfl)
            try simp only [Act.put, List.setIfInBounds_toArray, List.set_cons_zero, List.set_cons_succ]
            refine wpAnyG_takeP 9 (v := ?v9) rfl (by kernel_rfl) (fun _ _ _ h => h) (by rfl) ?h9 hS0 ?_
            case h9 => (intro wl; go_simp; try with_reducible rfl)
            try simp only [Act.put, List.setIfInBounds_toArray, List.set_cons_zero, List.set_cons_succ]
            refine wpAnyG_takeP 10 (v := ?v10) rfl (by kernel_rfl) (fun _ _ _ h => h) (by rfl) ?h10 hS0 ?_
            case h10 => (intro wl; go_simp; try with_reducible rfl)
            try simp only [Act.put, List.setIfInBounds_toArray, List.set_cons_zero, List.set_cons_succ]
            refine wpAnyG_takeP 11 (v := ?v11) rfl (by kernel_rfl) (fun _ _ _ h => h) (by rfl) ?h11 hS0 ?_
            case h11 => (intro wl; go_simp; try with_reducible rfl)
            try simp only [Act.put, List.setIfInBounds_toArray, List.set_cons_zero, List.set_cons_succ]
            refine wpAnyG_takeP 12 (v := ?v12) rfl (by kernel_rfl) (fun _ _ _ h => h) (by rfl) ?h12 hS0 ?_
            case h12 => (intro wl; go_simp; try with_reducible rfl)
            try simp only [Act.put, List.setIfInBounds_toArray, List.set_cons_zero, List.set_cons_succ]
            refine wpAnyG_takeL 13 (v := ?v13) rfl (by kernel_rfl) (fun _ _ _ h => h) (by rfl) ?h13 hS0 ?_
            case h13 => (intro wl hl; obtain ⟨l0, l1, l2, l3⟩ := hl; go_simp; try with_reducible rfl)
            try simp only [Act.put, List.setIfInBounds_toArray, List.set_cons_zero, List.set_cons_succ]
            refine wpAnyG_takeP 14 (v := ?v14) rfl (by kernel_rfl) (fun _ _ _ h => h) (by rfl) ?h14 hS0 ?_
            case h14 => (intro wl; go_simp; try with_reducible rfl)
            try simp only [Act.put, List.setIfInBounds_toArray, List.set_cons_zero, List.set_cons_succ]
            refine wpAnyG_takeP 15 (v := ?v15) rfl (by kernel_rfl) (fun _ _ _ h => h) (by rfl) ?h15 hS0 ?_
            case h15 => (intro wl; go_simp; try with_reducible rfl)
            try simp only [Act.put, List.setIfInBounds_toArray, List.set_cons_zero, List.set_cons_succ]
            refine wpAnyG_takeP 16 (v := ?v16) rfl (by kernel_rfl) (fun _ _ _ h => h) (by rfl) ?h16 hS0 ?_
            case h16 => (intro wl; go_simp; try with_reducible rfl)
            try simp only [Act.put, List.setIfInBounds_toArray, List.set_cons_zero, List.set_cons_succ]
            refine wpAnyG_takeP 17 (v := ?v17) rfl (by kernel_rfl) (fun _ _ _ h => h) (by rfl) ?h17 hS0 ?_
            case h17 => (intro wl; go_simp; try with_reducible rfl)
            try simp only [Act.put, List.setIfInBounds_toArray, List.set_cons_zero, List.set_cons_succ]
            refine wpAnyG_takeL 18 (v := ?v18) rfl (by kernel_rfl) (fun _ _ _ h => h) (by rfl) ?h18 hS0 ?_
            case h18 => (intro wl hl; obtain ⟨l0, l1, l2, l3⟩ := hl; go_simp; try with_reducible rfl)
            try simp only [Act.put, List.setIfInBounds_toArray, List.set_cons_zero, List.set_cons_succ]
            refine wpAnyG_takeP 19 (v := ?v19) rfl (by kernel_rfl) (fun _ _ _ h => h) (by rfl) ?h19 hS0 ?_
            case h19 => (intro wl; go_simp; try with_reducible rfl)
            try simp only [Act.put, List.setIfInBounds_toArray, List.set_cons_zero, List.set_cons_succ]
            refine wpAnyG_takeP 20 (v := ?v20) rfl (by kernel_rfl) (fun _ _ _ h => h) (by rfl) ?h20 hS0 ?_
            case h20 => (intro wl; go_simp; try with_reducible rfl)
            try simp only [Act.put, List.setIfInBounds_toArray, List.set_cons_zero, List.set_cons_succ]
            refine wpAnyG_takeP 21 (v := ?v21) rfl (by kernel_rfl) (fun _ _ _ h => h) (by rfl) ?h21 hS0 ?_
            case h21 => (intro wl; go_simp; try with_reducible rfl)
            try simp only [Act.put, List.setIfInBounds_toArray, List.set_cons_zero, List.set_cons_succ]
            refine wpAnyG_takeP 22 (v := ?v22) rfl (by kernel_rfl) (fun _ _ _ h => h) (by rfl) ?h22 hS0 ?_
            case h22 => (intro wl; go_simp; try with_reducible rfl)
            try simp only [Act.put, List.setIfInBounds_toArray, List.set_cons_zero, List.set_cons_succ]
            refine wpAnyG_takeP 23 (v := ?v23) rfl (by kernel_rfl) (fun _ _ _ h => h) (by rfl) ?h23 hS0 ?_
            case h23 => (intro wl; go_simp; try with_reducible rfl)
            try simp only [Act.put, List.setIfInBounds_toArray, List.set_cons_zero, List.set_cons_succ]
            refine wpAnyG_takeP 24 (v := ?v24) rfl (by kernel_rfl) (fun _ _ _ h => h) (by rfl) ?h24 hS0 ?_
            case h24 => (intro wl; go_simp; try with_reducible rfl)
            try simp only [Act.put, List.setIfInBounds_toArray, List.set_cons_zero, List.set_cons_succ]
            refine wpAnyG_takeP 25 (v := ?v25) rfl (by kernel_rfl) (fun _ _ _ h => h) (by rfl) ?h25 hS0 ?_
            case h25 => (intro wl; go_simp; try with_reducible rfl)
            try simp only [Act.put, List.setIfInBounds_toArray, List.set_cons_zero, List.set_cons_succ]
            refine wpAnyG_takeL 26 (v := ?v26) rfl (by kernel_rfl) (fun _ _ _ h => h) (by rfl) ?h26 hS0 ?_
            case h26 => (intro wl hl; obtain ⟨l0, l1, l2, l3⟩ := hl; go_simp; try with_reducible rfl)
            try simp only [Act.put, List.setIfInBounds_toArray, List.set_cons_zero, List.set_cons_succ]
            refine wpAnyG_takeP 27 (v := ?v27) rfl (by kernel_rfl) (fun _ _ _ h => h) (by rfl) ?h27 hS0 ?_
            case h27 => (intro wl; go_simp; try with_reducible rfl)
            try simp only [Act.put, List.setIfInBounds_toArray, List.set_cons_zero, List.set_cons_succ]
            refine wpAnyG_takeP 28 (v := ?v28) rfl (by kernel_rfl) (fun _ _ _ h => h) (by rfl) ?h28 hS0 ?_
            case h28 => (intro wl; go_simp; try with_reducible rfl)
            try simp only [Act.put, List.setIfInBounds_toArray, List.set_cons_zero, List.set_cons_succ]
            refine wpAnyG_takeP 29 (v := ?v29) rfl (by kernel_rfl) (fun _ _ _ h => h) (by rfl) ?h29 hS0 ?_
            case h29 => (intro wl; go_simp; try with_reducible rfl)
            try simp only [Act.put, List.setIfInBounds_toArray, List.set_cons_zero, List.set_cons_succ]
            refine wpAnyG_takeP 30 (v := ?v30) rfl (by kernel_rfl) (fun _ _ _ h => h) (by rfl) ?h30 hS0 ?_
            case h30 => (intro wl; go_simp; try with_reducible rfl)
            try simp only [Act.put, List.setIfInBounds_toArray, List.set_cons_zero, List.set_cons_succ]
            refine wpAnyG_takeL 31 (v := ?v31) rfl (by kernel_rfl) (fun _ _ _ h => h) (by rfl) ?h31 hS0 ?_
            case h31 => (intro wl hl; obtain ⟨l0, l1, l2, l3⟩ := hl; go_simp; try with_reducible rfl)
            try simp only [Act.put, List.setIfInBounds_toArray, List.set_cons_zero, List.set_cons_succ]
            refine wpAnyG_takeP 32 (v := ?v32) rfl (by kernel_rfl) (fun _ _ _ h => h) (by rfl) ?h32 hS0 ?_
            case h32 => (intro wl; go_simp; try with_reducible rfl)
            try simp only [Act.put, List.setIfInBounds_toArray, List.set_cons_zero, List.set_cons_succ]
            refine wpAnyG_takeP 33 (v := ?v33) rfl (by kernel_rfl) (fun _ _ _ h => h) (by rfl) ?h33 hS0 ?_
            case h33 => (intro wl; go_simp; try with_reducible rfl)
            try simp only [Act.put, List.setIfInBounds_toArray, List.set_cons_zero, List.set_cons_succ]
            refine wpAnyG_one 34 rfl (by kernel_rfl) (fun K hK => ?_)
            go_simp
            refine hK _ _ (fun _ => ⟨by go_keep, by go_keep, by go_keep, by go_keep⟩) ?_
            clear hK K
            try simp only [Act.put, List.setIfInBounds_toArray, List.set_cons_zero, List.set_cons_succ]
            refine wpAnyG_one 35 rfl (by kernel_rfl) (fun K hK => ?_)
            (refine step_append_lies _ (by rfl) (.tmp 69) (.tmp 99) _ (by rfl) w.heap.size 41 i0 _ 3 32 Tryd.underlying39 hi hz0 hz1 hz2 rfl (by omega) (.slice ad pre.length cp) pre.length (cellsW pre) (by rfl) ((HW.out.own.alloc _).drew) ⟨w'.heap.size, 0, none⟩ 1 1 [.string (s.extract x (x + n)), .int .i64 num, .int .i64 ((x : Int) + 1)] (by rfl) (by rfl) (World.news_of_block (cs := #[.string (s.extract x (x + n)), .int .i64 num, .int .i64 ((x : Int) + 1)]) (t := 41) (fr := (0, 0)) (heap_alloc_new w' _)) (by simp [Value.oneCell']) (by omega) (by unfold maxLen; omega) (by omega) (by have := HW.out.but.size; simp; omega) (w'.heap.size + 1) (by simp) ?_; intro gg cap w1 hown1 hgrow hat hlt1; have hbel : Below w'.heap.size w' _ := (((Below.refl w'.heap.size w').alloc (Nat.le_refl _) (.cells #[.string (s.extract x (x + n)), .int .i64 num, .int .i64 ((x : Int) + 1)] 41)).drew); obtain ⟨k0, k1, k2, k3, kf3⟩ := HK.out _ _ hbel hgrow; have HW2 := Lib.hid (hWd.out _ _ gg cap hbel hgrow hown1); clear hown1 hgrow hat hlt1 hbel)
            refine hK _ _ (fun _ => ⟨k0, k1, k2, k3⟩) ?_
            clear hK K
            try simp only [Act.put, List.setIfInBounds_toArray, List.set_cons_zero, List.set_cons_succ]
            refine wpAnyG_one 36 rfl (by kernel_rfl) (fun K hK => ?_)
            go_simp
            refine hK _ _ (fun _ => ⟨k0, k1, k2, k3⟩) ?_
            clear hK K
            try simp only [Act.put, List.setIfInBounds_toArray, List.set_cons_zero, List.set_cons_succ]
            refine wpAnyG_one 37 rfl (by kernel_rfl) (fun K hK => ?_)
            go_simp
            refine hK _ _ (fun _ => ⟨k0, k1, k2, k3⟩) ?_
            clear hK K
            try simp only [Act.put, List.setIfInBounds_toArray, List.set_cons_zero, List.set_cons_succ]
            refine wpAnyG_one 38 rfl (by kernel_rfl) (fun K hK => ?_)
            go_simp
            refine hK _ _ (fun h => absurd h (by decide)) ?_
            clear hK K
            refine wpAnyG_done (by kernel_rfl) ?_ _
            have HSt : Hid (Calls Tryd.prog 38 #[.pointer (some ⟨b, 0, none⟩), .int .i64 n] (w1.setCell ⟨b, 3, none⟩ (.slice (some ⟨gg, 0, none⟩) (pre.length + 1) cap)) fun e w' => e = .returned (.tuple #[]) ∧ ∃ W, RdIn b num s w (x + n) (pre ++ [⟨s.extract x (x + n), num, x + 1⟩]) (.slice (some ⟨gg, 0, none⟩) (pre.length + 1) cap) W ∧ w' = W) :=
              (step_any b x n _ hx0 (by omega) (by omega) HW2.out.1.c1 HW2.out.1.f1).mono (by rintro e w' ⟨rfl, rfl⟩; exact ⟨rfl, _, HW2.out.2, by rw [show ((x + n : Nat) : Int) = (x : Int) + (n : Int) by omega]⟩)
            clear hi1 hi2 hi3 hi4 hi5 hi6 k0 k1 k2 k3 kf3 hS0
            go_wp2_with fail
            refine HSt.out.mono ?_
            rintro e w' ⟨rfl, W, hW, rfl⟩
            have HW3 := Lib.hid hW
            have HM2 : Hid (cellN w' ⟨b, 1, none⟩ = x + n) := by show _ = _; unfold cellN; rw [hW.st.c1]; simp [intOf]; omega
            clear hW
            go_wp2_with fail
            go_roundw
            case rel => exact ⟨x + n, _, _, HW3⟩
            case measure => rw [HM.out, HM2.out]; omega
    · have hxe : x = s.size := by omega
      have HE : Hid (Wd.line num (s.data.toList.drop x) x = .ok []) := by show _ = _; rw [hxe, List.drop_of_length_le (by rw [Lib.size_eq]; omega), Wd.line_nil]
      have hxz : decide ((x : Int) < (s.size : Int)) = false := by simp; omega
      clear hxe
      go_wp2_with fail
      go_quiet (fail)
      go_wp2_with fail
      go_end0
      exact (hr.out.drewN _).done HE.out
end Go.Proofs.YtfnfmkejkgiclaaDoor
