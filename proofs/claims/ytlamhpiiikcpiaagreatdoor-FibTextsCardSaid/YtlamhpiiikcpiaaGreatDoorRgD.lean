/-
  Walks over package words: a line is read.
-/
import Derived.Test.YtlamhpiiikcpiaaGreatDoorRgC
import Derived.Deep.RegionHeld3
import Derived.Deep.AppendLies
import Derived.Deep.RegionLaw
import Derived.StillTailTactics
import Derived.RangeFuncIn
import Derived.RangeFuncLeaves
import Derived.RangeFuncRecord
import Derived.RangeFuncSeq
import Derived.RegionTactic
import Derived.Defers
import Derived.Recover
import Derived.WideLaws
import Derived.Laws.Pointers
import Derived.RangeFuncNested
import Derived.RangeFuncBound
import Derived.RangeFuncCalls
import Derived.Shelf.Abstract
import Derived.Shelf.RegionOpen
import Derived.WalkKit
import Derived.OwnWalkIn
import Derived.TacticsInMore
import Derived.LoopNIn
import Derived.LoopIn
import Derived.OrdersIn
namespace Go.Proofs.YtlamhpiiikcpiaaGreatDoor
open Go.RowKit
set_option linter.unusedVariables false
set_option linter.unusedSimpArgs false
def encW (x : Wrd) : List Value := [.string x.t, .int .i64 x.l, .int .i64 x.c]
def cellsW (l : List Wrd) : List Value := l.flatMap encW
theorem cellsW_append (a b : List Wrd) : cellsW (a ++ b) = cellsW a ++ cellsW b := by simp [cellsW]
theorem cellsW_one (x : Wrd) : cellsW [x] = encW x := by simp [cellsW]
theorem infoW : (Tryz.prog.info? 167).map (fun i => (i.zero, i.size, i.bytes)) = some (some (.agg #[.string ⟨#[]⟩, .int .i64 0, .int .i64 0]), 3, 32) := by kernel_rfl
/-- A number that lies in a cell. -/
def cellN (w : World) (a : Addr) : Nat := match w.cell? a with | some v => (intOf v).toNat | none => 0
/-- A reader: its line's number, the place that it has come to, its line, its words. -/
structure RdSt (b num x : Nat) (s : ByteArray) (v : Value) (w : World) : Prop where
  c0 : w.cell? ⟨b, 0, none⟩ = some (.int .i64 num)
  c1 : w.cell? ⟨b, 1, none⟩ = some (.int .i64 x)
  c2 : w.cell? ⟨b, 2, none⟩ = some (.string s)
  c3 : w.cell? ⟨b, 3, none⟩ = some v
  f1 : w.frozen? ⟨b, 1, none⟩ = false
  f3 : w.frozen? ⟨b, 3, none⟩ = false
  lt : b < w.heap.size
theorem RdSt.below {b num x : Nat} {s : ByteArray} {v : Value} {w w' : World} (h : RdSt b num x s v w) (hb : Below w.heap.size w w') : RdSt b num x s v w' := by
  have hf : ∀ o, w'.frozen? ⟨b, o, none⟩ = w.frozen? ⟨b, o, none⟩ := fun o => (But.below hb).frozen (S := fun _ => False) (p := ⟨b, o, none⟩) h.lt (fun h => h)
  exact ⟨(hb.cell (p := ⟨b, 0, none⟩) h.lt).trans h.c0, (hb.cell (p := ⟨b, 1, none⟩) h.lt).trans h.c1, (hb.cell (p := ⟨b, 2, none⟩) h.lt).trans h.c2, (hb.cell (p := ⟨b, 3, none⟩) h.lt).trans h.c3, (hf 1).trans h.f1, (hf 3).trans h.f3, Nat.lt_of_lt_of_le h.lt hb.size⟩
theorem RdSt.step {b num x : Nat} {s : ByteArray} {v : Value} {w : World} (h : RdSt b num x s v w) (y : Nat) : RdSt b num y s v (w.setCell ⟨b, 1, none⟩ (.int .i64 y)) :=
  ⟨(cell_set_other _ (by simp)).trans h.c0, cell_set_same _ h.c1, (cell_set_other _ (by simp)).trans h.c2, (cell_set_other _ (by simp)).trans h.c3, by rw [World.frozen?_setCell]; exact h.f1, by rw [World.frozen?_setCell]; exact h.f3, by simpa [World.setCell] using h.lt⟩
theorem RdSt.put {b num x : Nat} {s : ByteArray} {v : Value} {w : World} (h : RdSt b num x s v w) (v' : Value) : RdSt b num x s v' (w.setCell ⟨b, 3, none⟩ v') :=
  ⟨(cell_set_other _ (by simp)).trans h.c0, (cell_set_other _ (by simp)).trans h.c1, (cell_set_other _ (by simp)).trans h.c2, cell_set_same _ h.c3, by rw [World.frozen?_setCell]; exact h.f1, by rw [World.frozen?_setCell]; exact h.f3, by simpa [World.setCell] using h.lt⟩
/-- What a reader has come to. -/
structure RdIn (b num : Nat) (s : ByteArray) (w : World) (x : Nat) (pre : List Wrd) (v : Value) (wr : World) : Prop where
  st : RdSt b num x s v wr
  le : x ≤ s.size
  own : wr.ownsRow w.heap.size 167 3 v pre.length (cellsW pre)
  few : pre.length ≤ x
  eq : Wd.line num s.data.toList 0 = (Wd.line num (s.data.toList.drop x) x).map (pre ++ ·)
  but : But (fun k => k = b ∨ w.heap.size ≤ k) w wr
  lt : b < w.heap.size
/-- What reading a line leaves. -/
def ReadPost (b num : Nat) (s : ByteArray) (w : World) (e : Ending) (w' : World) : Prop :=
  match Wd.line num s.data.toList 0 with
  | .ok ws => e = .returned (.tuple #[]) ∧ ∃ v, w'.cell? ⟨b, 3, none⟩ = some v ∧ w'.ownsRow w.heap.size 167 3 v ws.length (cellsW ws) ∧ But (fun k => k = b) w w'
  | .error p => e = .panicked [{ v := .iface 156 (.agg #[.int .i64 num, .int .i64 ((p : Int) + 1)]), recovered := false }] ∧ But (fun k => k = b) w w'
theorem But.less {S T : Nat → Prop} {w w' : World} (h : But S w w') (hs : ∀ k, k < w.heap.size → S k → T k) : But T w w' := ⟨h.os, h.tape, h.output, h.size, fun k hk ht => h.block k hk (fun hn => ht (hs k hk hn))⟩
theorem RdIn.done {b num : Nat} {s : ByteArray} {w : World} {x : Nat} {pre : List Wrd} {v : Value} {wr : World} (h : RdIn b num s w x pre v wr) (hl : Wd.line num (s.data.toList.drop x) x = .ok []) : ReadPost b num s w (.returned (.tuple #[])) wr := by
  unfold ReadPost
  rw [h.eq, hl]
  simp only [Except.map, List.append_nil]
  refine ⟨?_, v, h.st.c3, h.own, h.but.less fun k hk hs => hs.elim id (fun h => by omega)⟩
  first | rfl | trivial
theorem RdIn.bad {b num : Nat} {s : ByteArray} {w : World} {x : Nat} {pre : List Wrd} {v : Value} {wr : World} (h : RdIn b num s w x pre v wr) (hl : Wd.line num (s.data.toList.drop x) x = .error x) {e : Ending} (he : e = .panicked [{ v := .iface 156 (.agg #[.int .i64 num, .int .i64 ((x : Int) + 1)]), recovered := false }]) {w2 : World} (hb : Below wr.heap.size wr w2) : ReadPost b num s w e w2 := by
  unfold ReadPost
  rw [h.eq, hl]
  simp only [Except.map]
  exact ⟨he, (h.but.trans (But.below hb)).less fun k hk hs => hs.elim id (fun h => by omega)⟩
theorem RdSt.drewN {b num x : Nat} {s : ByteArray} {v : Value} {w : World} (h : RdSt b num x s v w) (k : Nat) : RdSt b num x s v (w.drewN k) := ⟨h.c0, h.c1, h.c2, h.c3, h.f1, h.f3, h.lt⟩
theorem RdIn.drewN {b num : Nat} {s : ByteArray} {w : World} {x : Nat} {pre : List Wrd} {v : Value} {wr : World} (h : RdIn b num s w x pre v wr) (k : Nat) : RdIn b num s w x pre v (wr.drewN k) :=
  ⟨h.st.drewN k, h.le, h.own, h.few, h.eq, ⟨h.but.os, h.but.tape, h.but.output, h.but.size, h.but.block⟩, h.lt⟩
theorem RdIn.blank {b num : Nat} {s : ByteArray} {w : World} {x : Nat} {pre : List Wrd} {v : Value} {wr : World} (h : RdIn b num s w x pre v wr) (hx : x < s.size) (hc : s[x] = 32 ∨ s[x] = 9) : RdIn b num s w (x + 1) pre v (wr.setCell ⟨b, 1, none⟩ (.int .i64 ((x : Int) + 1))) := by
  have hd : s.data.toList.drop x = s[x] :: s.data.toList.drop (x + 1) := by
    rw [List.drop_eq_getElem_cons (by simpa using hx)]; rfl
  refine ⟨h.st.step (x + 1), by omega, ownsRow_setCell_below h.own ?_ _, by have := h.few; omega, by rw [h.eq, hd, Wd.line_blank _ _ _ _ hc], h.but.trans ((But.set (S := fun k => k = b ∨ w.heap.size ≤ k) (a := ⟨b, 1, none⟩) (.inl rfl) _)), h.lt⟩
  exact h.lt
theorem ownsRow_slice {w : World} {b : Nat} {e : TypeId} {k : Nat} {v : Value} {n : Nat} {xs : List Value} (h : w.ownsRow b e k v n xs) : ∃ ad cap, v = .slice ad n cap ∧ ∀ a, ad = some a → b ≤ a.block ∧ v.ownBlock = some a.block := by
  rcases h.2 with ⟨h1, h2⟩ | ⟨g, cap, cur, hv, hg, _⟩
  · exact ⟨none, 0, by rw [h1, h2], fun a h => by cases h⟩
  · exact ⟨_, cap, hv, fun a h => by injection h with h; subst h; exact ⟨hg, by rw [hv]; rfl⟩⟩
theorem RdIn.kept {b num : Nat} {s : ByteArray} {w : World} {x : Nat} {pre : List Wrd} {v : Value} {wr : World} (h : RdIn b num s w x pre v wr) {W1 W0 : World} (hW0 : Below wr.heap.size wr W0) (hg : W0.grownBy W1 v.ownBlock) : RdSt b num x s v W1 ∧ But (fun k => v.ownBlock = some k) wr W1 := by
  have hbut : But (fun k => v.ownBlock = some k) W0 W1 := ⟨hg.os, hg.tape, hg.output, hg.size, fun k hk hn => hg.block k hk (fun e => hn e.symm)⟩
  have hno : ¬ v.ownBlock = some b := by
    obtain ⟨ad', cap', hv, ha⟩ := ownsRow_slice h.own
    intro e
    cases ad' with
    | none => rw [hv] at e; cases e
    | some a =>
      obtain ⟨h1, h2⟩ := ha a rfl
      rw [h2] at e
      injection e with e
      have := h.lt
      omega
  have hall : But (fun k => v.ownBlock = some k) wr W1 := (But.below hW0).trans hbut
  have cell : ∀ o, W1.cell? ⟨b, o, none⟩ = wr.cell? ⟨b, o, none⟩ := fun o => hall.cell (p := ⟨b, o, none⟩) h.st.lt hno
  have froz : ∀ o, W1.frozen? ⟨b, o, none⟩ = wr.frozen? ⟨b, o, none⟩ := fun o => hall.frozen (p := ⟨b, o, none⟩) h.st.lt hno
  exact ⟨⟨(cell 0).trans h.st.c0, (cell 1).trans h.st.c1, (cell 2).trans h.st.c2, (cell 3).trans h.st.c3, (froz 1).trans h.st.f1, (froz 3).trans h.st.f3, Nat.lt_of_lt_of_le h.st.lt hall.size⟩, hall⟩
theorem RdIn.word {b num : Nat} {s : ByteArray} {w : World} {x : Nat} {pre : List Wrd} {v : Value} {wr : World} (h : RdIn b num s w x pre v wr) {n : Nat} (hn : Wd.size (s.data.toList.drop x) = n) (hx : x < s.size) (h35 : ¬ s[x] = 35) (hb : ¬ (s[x] = 32 ∨ s[x] = 9)) (hn0 : n ≠ 0)
    {W1 W0 : World} {ad : Addr} {cap : Nat} (hW0 : Below wr.heap.size wr W0) (hg : W0.grownBy W1 v.ownBlock)
    (ho : W1.ownsRow w.heap.size 167 3 (.slice (some ad) (pre.length + 1) cap) (pre.length + 1) (cellsW pre ++ [.string (s.extract x (x + n)), .int .i64 num, .int .i64 ((x : Int) + 1)])) :
    RdSt b num x s (.slice (some ad) (pre.length + 1) cap) (W1.setCell ⟨b, 3, none⟩ (.slice (some ad) (pre.length + 1) cap)) ∧
    RdIn b num s w (x + n) (pre ++ [⟨s.extract x (x + n), num, x + 1⟩]) (.slice (some ad) (pre.length + 1) cap) ((W1.setCell ⟨b, 3, none⟩ (.slice (some ad) (pre.length + 1) cap)).setCell ⟨b, 1, none⟩ (.int .i64 ((x + n : Nat) : Int))) := by
  obtain ⟨st1, hall⟩ := h.kept hW0 hg
  have st2 := st1.put (.slice (some ad) (pre.length + 1) cap)
  have hd : s.data.toList.drop x = s[x] :: s.data.toList.drop (x + 1) := by
    rw [List.drop_eq_getElem_cons (by simpa using hx)]; rfl
  have hsz := Wd.size_le (s.data.toList.drop x) (by rw [hd]; simp)
  rw [hn, List.length_drop, ← Lib.size_eq] at hsz
  refine ⟨st2, st2.step (x + n), by omega, ?_, ?_, ?_, ?_, h.lt⟩
  · rw [List.length_append, List.length_singleton, cellsW_append, cellsW_one]
    exact ownsRow_setCell_below (ownsRow_setCell_below ho h.lt _) h.lt _
  · rw [List.length_append, List.length_singleton]; have := h.few; omega
  · have hw := Wd.line_word num x s[x] (s.data.toList.drop (x + 1)) h35 hb (by rw [← hd, hn]; exact hn0)
    rw [← hd, hn, List.drop_drop] at hw
    rw [h.eq, hw]
    have hmk : Wd.mkB ((s.data.toList.drop x).take n) = s.extract x (x + n) := by
      rw [← Wd.mkB_of (s.extract x (x + n)), Lib.extract_data, show x + n - x = n by omega]
    rw [hmk]
    cases Wd.line num (s.data.toList.drop (x + n)) (x + n) <;> simp [Except.map]
  · refine (h.but.trans (hall.mono fun k hk => .inr ?_)).trans (((But.set (S := fun k => k = b ∨ w.heap.size ≤ k) (a := ⟨b, 3, none⟩) (.inl rfl) _)).trans ((But.set (S := fun k => k = b ∨ w.heap.size ≤ k) (a := ⟨b, 1, none⟩) (.inl rfl) _)))
    obtain ⟨ad', cap', hv, ha⟩ := ownsRow_slice h.own
    cases ad' with
    | none => rw [hv] at hk; cases hk
    | some a =>
      obtain ⟨h1, h2⟩ := ha a rfl
      rw [h2] at hk
      injection hk with hk
      omega
theorem byte_test (c d : UInt8) (q : Bool) (h : (c == d) = q) : (((c.toNat : Nat) : Int) == ((d.toNat : Nat) : Int)) = q := by
  subst h
  exact u8_eq _ _
set_option maxHeartbeats 16000000 in
set_option maxRecDepth 20000 in
theorem read_any (b num : Nat) (s : ByteArray) (w : World) (hs : s.size ≤ 1048576) (h : RdSt b num 0 s (.slice none 0 0) w) :
    Calls Tryz.prog 83 #[.pointer (some ⟨b, 0, none⟩)] w (ReadPost b num s w) := by
  have H0 : Hid (RdIn b num s w 0 [] (.slice none 0 0) w) := ⟨h, Nat.zero_le _, World.ownsRow_nil _ _ _ _, Nat.le_refl _, by simp [Except.map]; cases Wd.line num s.data.toList 0 <;> rfl, But.refl _ _, h.lt⟩
  clear h
  go_enter Tryz.func83, Tryz.ntmps83
  go_wp2_with fail
  go_loopw [3] (fun n wr => ∃ x pre v, Hid (RdIn b num s w x pre v wr)) (fun n wr => s.size - cellN wr ⟨b, 1, none⟩)
  case atStart => exact ⟨0, [], _, H0⟩
  case round =>
    obtain ⟨x, pre, v, hr⟩ := hrel
    obtain ⟨c0, c1, c2, c3, f1, f3, lt⟩ := hr.out.st
    have hle := hr.out.le
    have hm : cellN wr ⟨b, 1, none⟩ = x := by unfold cellN; rw [c1]; simp [intOf]
    have HM := Lib.hid hm
    have hx0 : (0 : Int) ≤ (x : Int) := by omega
    clear hm
    by_cases hx : x < s.size
    · have hd : s.data.toList.drop x = s[x] :: s.data.toList.drop (x + 1) := by
        rw [List.drop_eq_getElem_cons (by simpa using hx)]; rfl
      have HD := Lib.hid hd
      have hxz : (x : Int) < (s.size : Int) := by omega
      clear hd
      by_cases h35 : s[x] = 35
      · have HE : Hid (Wd.line num (s.data.toList.drop x) x = .ok []) := by show _ = _; rw [HD.out, h35, Wd.line_hash]
        have t1 : (((s[x].toNat : Nat) : Int) == 35) = true := byte_test _ 35 _ (by simp [h35])
        have t2 : (((s[x].toNat : Nat) : Int) != 35) = false := by rw [bne, t1]; rfl
        clear h35
        go_wp2_with fail
        go_quiet (fail)
        go_wp2_with fail
        go_end0
        exact (hr.out.drewN _).done HE.out
      · have t1 : (((s[x].toNat : Nat) : Int) == 35) = false := byte_test _ 35 _ (by simp [h35])
        have t2 : (((s[x].toNat : Nat) : Int) != 35) = true := by rw [bne, t1]; rfl
        have H35 := Lib.hid h35
        clear h35
        by_cases hb : s[x] = 32 ∨ s[x] = 9
        · have HS : Hid (∀ k, Calls Tryz.prog 112 #[.pointer (some ⟨b, 0, none⟩), .int .i64 1] (wr.drewN k) fun e w' => e = .returned (.tuple #[]) ∧ ∃ W, RdIn b num s w (x + 1) pre v W ∧ w' = W) := fun k =>
            (step_any b x 1 (wr.drewN k) hx0 (by omega) (by omega) c1 f1).mono (by rintro e w' ⟨rfl, rfl⟩; exact ⟨rfl, _, (hr.out.drewN k).blank hx hb, rfl⟩)
          have hor : (((s[x].toNat : Nat) : Int) == 32) = true ∨ ((((s[x].toNat : Nat) : Int) == 32) = false ∧ (((s[x].toNat : Nat) : Int) == 9) = true) := by
            by_cases h32 : s[x] = 32
            · exact .inl (byte_test _ 32 _ (by simp [h32]))
            · exact .inr ⟨byte_test _ 32 _ (by simp [h32]), byte_test _ 9 _ (by simpa [h32] using hb)⟩
          clear hb
          rcases hor with h32 | ⟨h32, h9⟩
          all_goals
            go_wp2_with fail
            go_quiet (fail)
            go_wp2_with fail
            go_quiet (fail)
            go_wp2_with fail
            refine (HS.out _).mono ?_
            rintro e w' ⟨rfl, W, hW, rfl⟩
            have HW := Lib.hid hW
            have HM2 : Hid (cellN w' ⟨b, 1, none⟩ = x + 1) := by show _ = _; unfold cellN; rw [hW.st.c1]; simp [intOf]
            clear hW
            go_wp2_with fail
            go_roundw
            case rel => exact ⟨x + 1, pre, v, HW⟩
            case measure => rw [HM.out, HM2.out]; omega
        · obtain ⟨n, hn⟩ : ∃ n, Wd.size (s.data.toList.drop x) = n := ⟨_, rfl⟩
          have HZ : Hid (∀ k, Calls Tryz.prog 113 #[.pointer (some ⟨b, 0, none⟩)] (wr.drewN k) fun e w' => e = .returned (.int .i64 n) ∧ ∃ W, RdIn b num s w x pre v W ∧ w' = W) := fun k =>
            (size_any b x s (wr.drewN k) hx hs c1 c2).mono (by rintro e w' ⟨rfl, k', rfl⟩; rw [hn]; exact ⟨rfl, _, (hr.out.drewN k).drewN k', rfl⟩)
          have h32 : (((s[x].toNat : Nat) : Int) == 32) = false := byte_test _ 32 _ (by simp; exact fun h => hb (.inl h))
          have h9 : (((s[x].toNat : Nat) : Int) == 9) = false := byte_test _ 9 _ (by simp; exact fun h => hb (.inr h))
          have HN := Lib.hid hn
          have HB := Lib.hid hb
          have hns : n ≤ s.size - x := by
            have := Wd.size_le (s.data.toList.drop x) (by rw [HD.out]; simp)
            rw [hn, List.length_drop, ← Lib.size_eq] at this
            exact this
          clear hn hb
          go_wp2_with fail
          go_quiet (fail)
          go_wp2_with fail
          go_quiet (fail)
          go_wp2_with fail
          refine (HZ.out _).mono ?_
          rintro e w' ⟨rfl, W, hW, rfl⟩
          clear c0 c1 c2 c3 f1 f3 lt t1 t2 h32 h9
          have HW := Lib.hid hW
          obtain ⟨c0, c1, c2, c3, f1, f3, lt⟩ := hW.st
          clear hW
          by_cases hn0 : n = 0
          · subst hn0
            have HE : Hid (Wd.line num (s.data.toList.drop x) x = .error x) := by
              show _ = _
              rw [HD.out, Wd.line_bad _ _ _ _ H35.out HB.out (by rw [← HD.out]; exact HN.out)]
            go_wp2_with fail
            have hw1 : IntKind.i64.wrap ((x : Int) + 1) = (x : Int) + 1 := IntWalk.i64_in _ (by omega)
            go_still_tail 13, (by kernel_rfl)
            refine wpList_plain rfl fun K hK => ?_
            unfold Oper.wp
            simp [execOp, Act.eval, run_panic_iface]
            refine ⟨rfl, ?_⟩
            exact HW.out.bad HE.out rfl ⟨rfl, rfl, rfl, Nat.le_refl _, fun _ _ => rfl⟩
          · have hnz : ((n : Int) == 0) = false := by simpa using hn0
            obtain ⟨ad, cp, rfl, _⟩ := ownsRow_slice HW.out.own
            obtain ⟨i0, hi, hz0, hz1, hz2⟩ := info_parts infoW
            have hfew := HW.out.few
            have hWd : Hid (∀ (W0 W1 : World) (g cap : Nat), Below w'.heap.size w' W0 → W0.grownBy W1 (Value.slice ad pre.length cp).ownBlock → W1.ownsRow w.heap.size 167 3 (.slice (some ⟨g, 0, none⟩) (pre.length + 1) cap) (pre.length + 1) (cellsW pre ++ [.string (s.extract x (x + n)), .int .i64 num, .int .i64 ((x : Int) + 1)]) →
                RdSt b num x s (.slice (some ⟨g, 0, none⟩) (pre.length + 1) cap) (W1.setCell ⟨b, 3, none⟩ (.slice (some ⟨g, 0, none⟩) (pre.length + 1) cap)) ∧
                RdIn b num s w (x + n) (pre ++ [⟨s.extract x (x + n), num, x + 1⟩]) (.slice (some ⟨g, 0, none⟩) (pre.length + 1) cap) ((W1.setCell ⟨b, 3, none⟩ (.slice (some ⟨g, 0, none⟩) (pre.length + 1) cap)).setCell ⟨b, 1, none⟩ (.int .i64 ((x + n : Nat) : Int)))) :=
              fun W0 W1 g cap h1 h2 h3 => HW.out.word HN.out hx H35.out HB.out hn0 h1 h2 h3
            have HK : Hid (∀ (W0 W1 : World), Below w'.heap.size w' W0 → W0.grownBy W1 (Value.slice ad pre.length cp).ownBlock → W1.cell? ⟨b, 0, none⟩ = some (.int .i64 num) ∧ W1.cell? ⟨b, 1, none⟩ = some (.int .i64 x) ∧ W1.cell? ⟨b, 2, none⟩ = some (.string s) ∧ W1.cell? ⟨b, 3, none⟩ = some (.slice ad pre.length cp) ∧ W1.frozen? ⟨b, 3, none⟩ = false) := fun W0 W1 h1 h2 => have hk := (HW.out.kept h1 h2).1; ⟨hk.c0, hk.c1, hk.c2, hk.c3, hk.f3⟩
            have hi1 : IntKind.i64.wrap ((x : Int) + 1) = (x : Int) + 1 := IntWalk.i64_in _ (by omega)
            have hi2 : IntKind.i64.wrap ((x : Int) + (n : Int)) = (x : Int) + (n : Int) := IntWalk.i64_in _ (by omega)
            have hi3 : (0 : Int) ≤ (x : Int) + (n : Int) := by omega
            have hi4 : ((x : Int) + (n : Int)).toNat = x + n := by omega
            have hi5 : (x : Int) + (n : Int) ≤ (s.size : Int) := by omega
            have hi6 : (x : Int) ≤ (x : Int) + (n : Int) := by omega
            go_wp2_with fail
            have hS0 : (fun W : World => W.cell? ⟨b, 0, none⟩ = some (.int .i64 num) ∧ W.cell? ⟨b, 1, none⟩ = some (.int .i64 x) ∧ W.cell? ⟨b, 2, none⟩ = some (.string s) ∧ W.cell? ⟨b, 3, none⟩ = some (.slice ad pre.length cp)) w'.drew := ⟨c0, c1, c2, c3⟩
            refine wp_region_heldG (fun W : World => W.cell? ⟨b, 0, none⟩ = some (.int .i64 num) ∧ W.cell? ⟨b, 1, none⟩ = some (.int .i64 x) ∧ W.cell? ⟨b, 2, none⟩ = some (.string s) ∧ W.cell? ⟨b, 3, none⟩ = some (.slice ad pre.length cp)) 38 (by kernel_rfl) ?_
            refine wpAnyG_takeP 0 (v := ?v0) rfl (by kernel_rfl) (fun _ _ _ h => h) (by rfl) ?h0 hS0 ?_
            case h0 => (intro wl; go_simp; try with_reducible rfl)
            try simp only [Act.put, List.setIfInBounds_toArray, List.set_cons_zero, List.set_cons_succ]
            refine wpAnyG_takeP 1 (v := ?v1) rfl (by kernel_rfl) (fun _ _ _ h => h) (by rfl) ?h1 hS0 ?_
            case h1 => (intro wl; go_simp; try with_reducible rfl)
            try simp only [Act.put, List.setIfInBounds_toArray, List.set_cons_zero, List.set_cons_succ]
            refine wpAnyG_takeP 2 (v := ?v2) rfl (by kernel_rfl) (fun _ _ _ h => h) (by rfl) ?h2 hS0 ?_
            case h2 => (intro wl; go_simp; try with_reducible rfl)
            try simp only [Act.put, List.setIfInBounds_toArray, List.set_cons_zero, List.set_cons_succ]
            refine wpAnyG_takeP 3 (v := ?v3) rfl (by kernel_rfl) (fun _ _ _ h => h) (by rfl) ?h3 hS0 ?_
            case h3 => (intro wl; go_simp; try with_reducible rfl)
            try simp only [Act.put, List.setIfInBounds_toArray, List.set_cons_zero, List.set_cons_succ]
            refine wpAnyG_takeL 4 (v := ?v4) rfl (by kernel_rfl) (fun _ _ _ h => h) (by rfl) ?h4 hS0 ?_
            case h4 => (intro wl hl; obtain ⟨l0, l1, l2, l3⟩ := hl; go_simp; try with_reducible rfl)
            try simp only [Act.put, List.setIfInBounds_toArray, List.set_cons_zero, List.set_cons_succ]
            refine wpAnyG_takeP 5 (v := ?v5) rfl (by kernel_rfl) (fun _ _ _ h => h) (by rfl) ?h5 hS0 ?_
            case h5 => (intro wl; go_simp; try with_reducible rfl)
            try simp only [Act.put, List.setIfInBounds_toArray, List.set_cons_zero, List.set_cons_succ]
            refine wpAnyG_takeP 6 (v := ?v6) rfl (by kernel_rfl) (fun _ _ _ h => h) (by rfl) ?h6 hS0 ?_
            case h6 => (intro wl; go_simp; try with_reducible rfl)
            try simp only [Act.put, List.setIfInBounds_toArray, List.set_cons_zero, List.set_cons_succ]
            refine wpAnyG_takeP 7 (v := ?v7) rfl (by kernel_rfl) (fun _ _ _ h => h) (by rfl) ?h7 hS0 ?_
            case h7 => (intro wl; go_simp; try with_reducible rfl)
            try simp only [Act.put, List.setIfInBounds_toArray, List.set_cons_zero, List.set_cons_succ]
            refine wpAnyG_takeL 8 (v := ?v8) rfl (by kernel_rfl) (fun _ _ _ h => h) (by rfl) ?h8 hS0 ?_
            case h8 => (intro wl hl; obtain ⟨l0, l1, l2, l3⟩ := hl; go_simp; try with_reducible rfl)
            try simp only [Act.put, List.setIfInBounds_toArray, List.set_cons_zero, List.set_cons_succ]
            refine wpAnyG_takeP 9 (v := ?v9) rfl (by kernel_rfl) (fun _ _ _ h => h) (by rfl) ?h9 hS0 ?_
            case h9 => (intro wl; go_simp; try with_reducible rfl)
            try simp only [Act.put, List.setIfInBounds_toArray, List.set_cons_zero, List.set_cons_succ]
            refine wpAnyG_takeP 10 (v := ?v10) rfl (by kernel_rfl) (fun _ _ _ h => h) (by rfl) ?h10 hS0 ?_
            case h10 => (intro wl; go_simp; try with_reducible rfl)
            try simp only [Act.put, List.setIfInBounds_toArray, List.set_cons_zero, List.set_cons_succ]
            refine wpAnyG_takeP 11 (v := ?v11) rfl (by kernel_rfl) (fun _ _ _ h => h) (by rfl) ?h11 hS0 ?_
            case h11 => (intro wl; go_simp; try with_reducible rfl)
            try simp only [Act.put, List.setIfInBounds_toArray, List.set_cons_zero, List.set_cons_succ]
            refine wpAnyG_takeP 12 (v := ?v12) rfl (by kernel_rfl) (fun _ _ _ h => h) (by rfl) ?h12 hS0 ?_
            case h12 => (intro wl; go_simp; try with_reducible rfl)
            try simp only [Act.put, List.setIfInBounds_toArray, List.set_cons_zero, List.set_cons_succ]
            refine wpAnyG_takeL 13 (v := ?v13) rfl (by kernel_rfl) (fun _ _ _ h => h) (by rfl) ?h13 hS0 ?_
            case h13 => (intro wl hl; obtain ⟨l0, l1, l2, l3⟩ := hl; go_simp; try with_reducible rfl)
            try simp only [Act.put, List.setIfInBounds_toArray, List.set_cons_zero, List.set_cons_succ]
            refine wpAnyG_takeP 14 (v := ?v14) rfl (by kernel_rfl) (fun _ _ _ h => h) (by rfl) ?h14 hS0 ?_
            case h14 => (intro wl; go_simp; try with_reducible rfl)
            try simp only [Act.put, List.setIfInBounds_toArray, List.set_cons_zero, List.set_cons_succ]
            refine wpAnyG_takeP 15 (v := ?v15) rfl (by kernel_rfl) (fun _ _ _ h => h) (by rfl) ?h15 hS0 ?_
            case h15 => (intro wl; go_simp; try with_reducible rfl)
            try simp only [Act.put, List.setIfInBounds_toArray, List.set_cons_zero, List.set_cons_succ]
            refine wpAnyG_takeP 16 (v := ?v16) rfl (by kernel_rfl) (fun _ _ _ h => h) (by rfl) ?h16 hS0 ?_
            case h16 => (intro wl; go_simp; try with_reducible rfl)
            try simp only [Act.put, List.setIfInBounds_toArray, List.set_cons_zero, List.set_cons_succ]
            refine wpAnyG_takeP 17 (v := ?v17) rfl (by kernel_rfl) (fun _ _ _ h => h) (by rfl) ?h17 hS0 ?_
            case h17 => (intro wl; go_simp; try with_reducible rfl)
            try simp only [Act.put, List.setIfInBounds_toArray, List.set_cons_zero, List.set_cons_succ]
            refine wpAnyG_takeL 18 (v := ?v18) rfl (by kernel_rfl) (fun _ _ _ h => h) (by rfl) ?h18 hS0 ?_
            case h18 => (intro wl hl; obtain ⟨l0, l1, l2, l3⟩ := hl; go_simp; try with_reducible rfl)
            try simp only [Act.put, List.setIfInBounds_toArray, List.set_cons_zero, List.set_cons_succ]
            refine wpAnyG_takeP 19 (v := ?v19) rfl (by kernel_rfl) (fun _ _ _ h => h) (by rfl) ?h19 hS0 ?_
            case h19 => (intro wl; go_simp; try with_reducible rfl)
            try simp only [Act.put, List.setIfInBounds_toArray, List.set_cons_zero, List.set_cons_succ]
            refine wpAnyG_takeP 20 (v := ?v20) rfl (by kernel_rfl) (fun _ _ _ h => h) (by rfl) ?h20 hS0 ?_
            case h20 => (intro wl; go_simp; try with_reducible rfl)
            try simp only [Act.put, List.setIfInBounds_toArray, List.set_cons_zero, List.set_cons_succ]
            refine wpAnyG_takeP 21 (v := ?v21) rfl (by kernel_rfl) (fun _ _ _ h => h) (by rfl) ?h21 hS0 ?_
            case h21 => (intro wl; go_simp; try with_reducible rfl)
            try simp only [Act.put, List.setIfInBounds_toArray, List.set_cons_zero, List.set_cons_succ]
            refine wpAnyG_takeP 22 (v := ?v22) rfl (by kernel_rfl) (fun _ _ _ h => h) (by rfl) ?h22 hS0 ?_
            case h22 => (intro wl; go_simp; try with_reducible rfl)
            try simp only [Act.put, List.setIfInBounds_toArray, List.set_cons_zero, List.set_cons_succ]
            refine wpAnyG_takeP 23 (v := ?v23) rfl (by kernel_rfl) (fun _ _ _ h => h) (by rfl) ?h23 hS0 ?_
            case h23 => (intro wl; go_simp; try with_reducible rfl)
            try simp only [Act.put, List.setIfInBounds_toArray, List.set_cons_zero, List.set_cons_succ]
            refine wpAnyG_takeP 24 (v := ?v24) rfl (by kernel_rfl) (fun _ _ _ h => h) (by rfl) ?h24 hS0 ?_
            case h24 => (intro wl; go_simp; try with_reducible rfl)
            try simp only [Act.put, List.setIfInBounds_toArray, List.set_cons_zero, List.set_cons_succ]
            refine wpAnyG_takeP 25 (v := ?v25) rfl (by kernel_rfl) (fun _ _ _ h => h) (by rfl) ?h25 hS0 ?_
            case h25 => (intro wl; go_simp; try with_reducible rfl)
            try simp only [Act.put, List.setIfInBounds_toArray, List.set_cons_zero, List.set_cons_succ]
            refine wpAnyG_takeL 26 (v := ?v26) rfl (by kernel_rfl) (fun _ _ _ h => h) (by rfl) ?h26 hS0 ?_
            case h26 => (intro wl hl; obtain ⟨l0, l1, l2, l3⟩ := hl; go_simp; try with_reducible rfl)
            try simp only [Act.put, List.setIfInBounds_toArray, List.set_cons_zero, List.set_cons_succ]
            refine wpAnyG_takeP 27 (v := ?v27) rfl (by kernel_rfl) (fun _ _ _ h => h) (by rfl) ?h27 hS0 ?_
            case h27 => (intro wl; go_simp; try with_reducible rfl)
            try simp only [Act.put, List.setIfInBounds_toArray, List.set_cons_zero, List.set_cons_succ]
            refine wpAnyG_takeP 28 (v := ?v28) rfl (by kernel_rfl) (fun _ _ _ h => h) (by rfl) ?h28 hS0 ?_
            case h28 => (intro wl; go_simp; try with_reducible rfl)
            try simp only [Act.put, List.setIfInBounds_toArray, List.set_cons_zero, List.set_cons_succ]
            refine wpAnyG_takeP 29 (v := ?v29) rfl (by kernel_rfl) (fun _ _ _ h => h) (by rfl) ?h29 hS0 ?_
            case h29 => (intro wl; go_simp; try with_reducible rfl)
            try simp only [Act.put, List.setIfInBounds_toArray, List.set_cons_zero, List.set_cons_succ]
            refine wpAnyG_takeP 30 (v := ?v30) rfl (by kernel_rfl) (fun _ _ _ h => h) (by rfl) ?h30 hS0 ?_
            case h30 => (intro wl; go_simp; try with_reducible rfl)
            try simp only [Act.put, List.setIfInBounds_toArray, List.set_cons_zero, List.set_cons_succ]
            refine wpAnyG_takeL 31 (v := ?v31) rfl (by kernel_rfl) (fun _ _ _ h => h) (by rfl) ?h31 hS0 ?_
            case h31 => (intro wl hl; obtain ⟨l0, l1, l2, l3⟩ := hl; go_simp; try with_reducible rfl)
            try simp only [Act.put, List.setIfInBounds_toArray, List.set_cons_zero, List.set_cons_succ]
            refine wpAnyG_takeP 32 (v := ?v32) rfl (by kernel_rfl) (fun _ _ _ h => h) (by rfl) ?h32 hS0 ?_
            case h32 => (intro wl; go_simp; try with_reducible rfl)
            try simp only [Act.put, List.setIfInBounds_toArray, List.set_cons_zero, List.set_cons_succ]
            refine wpAnyG_takeP 33 (v := ?v33) rfl (by kernel_rfl) (fun _ _ _ h => h) (by rfl) ?h33 hS0 ?_
            case h33 => (intro wl; go_simp; try with_reducible rfl)
            try simp only [Act.put, List.setIfInBounds_toArray, List.set_cons_zero, List.set_cons_succ]
            refine wpAnyG_one 34 rfl (by kernel_rfl) (fun K hK => ?_)
            go_simp
            refine hK _ _ (fun _ => ⟨by go_keep, by go_keep, by go_keep, by go_keep⟩) ?_
            clear hK K
            try simp only [Act.put, List.setIfInBounds_toArray, List.set_cons_zero, List.set_cons_succ]
            refine wpAnyG_one 35 rfl (by kernel_rfl) (fun K hK => ?_)
            (refine step_append_lies _ (by rfl) (.tmp 69) (.tmp 99) _ (by rfl) w.heap.size 167 i0 _ 3 32 Tryz.underlying116 hi hz0 hz1 hz2 rfl (by omega) (.slice ad pre.length cp) pre.length (cellsW pre) (by rfl) ((HW.out.own.alloc _).drew) ⟨w'.heap.size, 0, none⟩ 1 1 [.string (s.extract x (x + n)), .int .i64 num, .int .i64 ((x : Int) + 1)] (by rfl) (by rfl) (World.news_of_block (cs := #[.string (s.extract x (x + n)), .int .i64 num, .int .i64 ((x : Int) + 1)]) (t := 167) (fr := (0, 0)) (heap_alloc_new w' _)) (by simp [Value.oneCell']) (by omega) (by unfold maxLen; omega) (by omega) (by have := HW.out.but.size; simp; omega) (w'.heap.size + 1) (by simp) ?_; intro gg cap w1 hown1 hgrow hat hlt1; have hbel : Below w'.heap.size w' _ := (((Below.refl w'.heap.size w').alloc (Nat.le_refl _) (.cells #[.string (s.extract x (x + n)), .int .i64 num, .int .i64 ((x : Int) + 1)] 167)).drew); obtain ⟨k0, k1, k2, k3, kf3⟩ := HK.out _ _ hbel hgrow; have HW2 := Lib.hid (hWd.out _ _ gg cap hbel hgrow hown1); clear hown1 hgrow hat hlt1 hbel)
            refine hK _ _ (fun _ => ⟨k0, k1, k2, k3⟩) ?_
            clear hK K
            try simp only [Act.put, List.setIfInBounds_toArray, List.set_cons_zero, List.set_cons_succ]
            refine wpAnyG_one 36 rfl (by kernel_rfl) (fun K hK => ?_)
            go_simp
            refine hK _ _ (fun _ => ⟨k0, k1, k2, k3⟩) ?_
            clear hK K
            try simp only [Act.put, List.setIfInBounds_toArray, List.set_cons_zero, List.set_cons_succ]
            refine wpAnyG_one 37 rfl (by kernel_rfl) (fun K hK => ?_)
            go_simp
            refine hK _ _ (fun _ => ⟨k0, k1, k2, k3⟩) ?_
            clear hK K
            try simp only [Act.put, List.setIfInBounds_toArray, List.set_cons_zero, List.set_cons_succ]
            refine wpAnyG_one 38 rfl (by kernel_rfl) (fun K hK => ?_)
            go_simp
            refine hK _ _ (fun h => absurd h (by decide)) ?_
            clear hK K
            refine wpAnyG_done (by kernel_rfl) ?_ _
            have HSt : Hid (Calls Tryz.prog 112 #[.pointer (some ⟨b, 0, none⟩), .int .i64 n] (w1.setCell ⟨b, 3, none⟩ (.slice (some ⟨gg, 0, none⟩) (pre.length + 1) cap)) fun e w' => e = .returned (.tuple #[]) ∧ ∃ W, RdIn b num s w (x + n) (pre ++ [⟨s.extract x (x + n), num, x + 1⟩]) (.slice (some ⟨gg, 0, none⟩) (pre.length + 1) cap) W ∧ w' = W) :=
              (step_any b x n _ hx0 (by omega) (by omega) HW2.out.1.c1 HW2.out.1.f1).mono (by rintro e w' ⟨rfl, rfl⟩; exact ⟨rfl, _, HW2.out.2, by rw [show ((x + n : Nat) : Int) = (x : Int) + (n : Int) by omega]⟩)
            clear hi1 hi2 hi3 hi4 hi5 hi6 k0 k1 k2 k3 kf3 hS0
            go_wp2_with fail
            refine HSt.out.mono ?_
            rintro e w' ⟨rfl, W, hW, rfl⟩
            have HW3 := Lib.hid hW
            have HM2 : Hid (cellN w' ⟨b, 1, none⟩ = x + n) := by show _ = _; unfold cellN; rw [hW.st.c1]; simp [intOf]; omega
            clear hW
            go_wp2_with fail
            go_roundw
            case rel => exact ⟨x + n, _, _, HW3⟩
            case measure => rw [HM.out, HM2.out]; omega
    · have hxe : x = s.size := by omega
      have HE : Hid (Wd.line num (s.data.toList.drop x) x = .ok []) := by show _ = _; rw [hxe, List.drop_of_length_le (by rw [Lib.size_eq]; omega), Wd.line_nil]
      have hxz : decide ((x : Int) < (s.size : Int)) = false := by simp; omega
      clear hxe
      go_wp2_with fail
      go_quiet (fail)
      go_wp2_with fail
      go_end0
      exact (hr.out.drewN _).done HE.out
end Go.Proofs.YtlamhpiiikcpiaaGreatDoor
/-
  A round of a range over a function whose body may panic: the panic goes up to the caller of yield.
-/
namespace Go
variable {F : Fence} {n : Nat} {P : Program}
/-- What is asked at a round's end, a panic taken in. -/
def roundPostP (P : Program) (l : Nat) (R : Ending → World → Prop) : Exit → Act → World → Prop
  | .panic chain, a, w => a.defers = [] ∧ R (.panicked chain) w
  | e, a, w => roundPost P l R e a w
/-- One round out of its body's walk, a panic taken in. -/
theorem roundIn_of_wpIn_p {l : Nat} {f : FuncId} {fn : Func} {tmps : Array Value} {assign body : Code} {w : World} {R : Ending → World → Prop} (hF : F.fn f) (hf : P.funcs[f]? = some fn)
    (h : assign.wpIn (F.inRound l) n P (Exit.then (fun a₁ w₁ => ∃ w₂, (Instr.beginRound l).run P w₁ = .ok () w₂ ∧ body.wpIn (F.inRound l) n P (roundPostP P l R) a₁ w₂) (fun _ _ _ => False))
      { tmps := tmps, defers := [] } w) :
    RoundIn F n P l f tmps assign body w R := by
  refine ⟨hF, fun c cs hr => ?_⟩
  let b : Frame := { (default : Frame) with fn := f, kind := .normal, roundOf := some l }
  have hb0 : Frame.round l f tmps assign body .normal = b.atR { tmps := tmps, defers := [] } [.code assign, .beginRound, .code body] := by
    simp [Frame.round, Frame.atR, b]
  have hr' : (F.inRound l).room ((c :: cs).length + 1 + n) := hr
  have hF' : (F.inRound l).fn b.fn := hF
  obtain ⟨e, a₁, w₁, hq, harr⟩ := h b [.beginRound, .code body] (c :: cs) rfl hF' hr'
  rw [← hb0] at harr
  cases e with
  | normal =>
    obtain ⟨w₂, hbr, hbody⟩ := hq
    have s1 : StepsIn (Machine.fenced P (F.inRound l)) P (lone (b.atR a₁ [.beginRound, .code body]) (c :: cs) w₁) (lone (b.atR a₁ [.code body]) (c :: cs) w₂) :=
      .one (fenced_calm (fr := b.atR a₁ [.beginRound, .code body]) hF' hr' rfl) (stepR_beginRound rfl hbr)
    obtain ⟨e₂, a₂, w₃, hq₂, harr₂⟩ := hbody b [] (c :: cs) rfl hF' hr'
    cases e₂ with
    | normal =>
      obtain ⟨v, w₄, hend, hR⟩ := hq₂
      exact ⟨.returned v, w₄, hR, (StepsIn.trans harr s1).trans (StepsIn.trans harr₂ (.one (fenced_calm (fr := b.atR a₂ []) hF' hr' rfl) (stepR_round_end rfl rfl hend)))⟩
    | ret =>
      obtain ⟨v, w₄, hend, hR⟩ := hq₂
      obtain ⟨k₁, hs⟩ := harr₂.2 rfl
      exact ⟨.returned v, w₄, hR, (StepsIn.trans harr s1).trans (StepsIn.trans hs (.one (fenced_calm (fr := b.atR a₂ (.code .ret :: k₁)) hF' hr' rfl) (stepR_round_ret rfl rfl hend)))⟩
    | exit id =>
      obtain ⟨v, w₄, hend, hR⟩ := hq₂
      obtain ⟨k₁, hk, hs⟩ := harr₂.2 rfl rfl
      exact ⟨.returned v, w₄, hR, (StepsIn.trans harr s1).trans (StepsIn.trans hs (.one (fenced_calm (fr := b.atR a₂ (.code (.exit id) :: k₁)) hF' hr' rfl) (stepR_round_exit rfl rfl hk hend)))⟩
    | goto t =>
      obtain ⟨v, w₄, hend, hR⟩ := hq₂
      obtain ⟨k₁, hk, hs⟩ := harr₂.2 rfl rfl
      exact ⟨.returned v, w₄, hR, (StepsIn.trans harr s1).trans (StepsIn.trans hs (.one (fenced_calm (fr := b.atR a₂ (.code (.goto t) :: k₁)) hF' hr' rfl) (stepR_round_goto rfl rfl hk hend)))⟩
    | panic chain =>
      obtain ⟨hd, hR⟩ := hq₂
      obtain ⟨todo, hs⟩ := harr₂
      have hl : ({ b.atR a₂ todo with mode := .panicking chain } : Frame).leaving P w₃ (.panicked chain) := ⟨rfl, by simpa [Frame.atR] using hd, fn, hf⟩
      refine ⟨.panicked chain, w₃, hR, (StepsIn.trans harr s1).trans (StepsIn.trans hs (.one (fenced_leaving (n := n) hF' hr' hl) (step_leave_panicked hl)))⟩
    | outgrown => exact hq₂.elim
  | exit id => exact hq.elim
  | goto t => exact hq.elim
  | ret => exact hq.elim
  | panic chain => exact hq.elim
  | outgrown => exact hq.elim
end Go
/-
  A function that holds a range over a function whose body may panic: walked for its own activations alone.
-/
namespace Go
/-- The activation of function f walks c. -/
def Code.wpF (f : FuncId) (P : Program) (c : Code) (Q : Exit → Act → World → Prop) (a : Act) (w : World) : Prop :=
  ∀ (b : Frame) (k : List Item) (cs : List Frame), b.roundOf = none → b.fn = f →
    ∃ e a' w', Q e a' w' ∧ ArrivesIn (Machine.fenced P Fence.wide) P (lone (b.atR a (.code c :: k)) cs w) b k cs e a' w'
section
variable {f : FuncId} {P : Program} {Q : Exit → Act → World → Prop} {a : Act} {w : World}
theorem wpF_of_wp {c : Code} (h : c.wp P Q a w) : c.wpF f P Q a w := fun b k cs hro _ => (wpIn_wide (n := 0)).2 h b k cs hro trivial (room_wide _)
theorem wpF_seq {x y : Code} (h : x.wpF f P (Exit.then (y.wpF f P Q) Q) a w) : (Code.seq x y).wpF f P Q a w := by
  intro b k cs hro hb
  have h0 : (lone (b.atR a (.code (.seq x y) :: k)) cs w).fenced P Fence.wide := fenced_wide _ _
  obtain ⟨e, a₁, w₁, hq, harr⟩ := h b (.code y :: k) cs hro hb
  cases e with
  | normal =>
    obtain ⟨e₂, a₂, w₂, hq₂, harr₂⟩ := hq b k cs hro hb
    exact ⟨e₂, a₂, w₂, hq₂, .of_steps (.head h0 stepR_seq harr) harr₂⟩
  | exit id => exact ⟨_, a₁, w₁, hq, .of_steps (.one h0 stepR_seq) (.pass (x := .code y) rfl (fun _ _ => .inl (by simp)) harr)⟩
  | goto l => exact ⟨_, a₁, w₁, hq, .of_steps (.one h0 stepR_seq) (.pass (x := .code y) rfl (fun _ _ => .inl (by simp)) harr)⟩
  | ret => exact ⟨_, a₁, w₁, hq, .of_steps (.one h0 stepR_seq) (.pass (x := .code y) rfl (fun _ _ => .inl (by simp)) harr)⟩
  | panic ch => exact ⟨_, a₁, w₁, hq, .of_steps (.one h0 stepR_seq) (.pass (x := .code y) rfl (fun _ _ => .inl (by simp)) harr)⟩
  | outgrown => exact ⟨_, a₁, w₁, hq, .of_steps (.one h0 stepR_seq) (.pass (x := .code y) rfl (fun _ _ => .inl (by simp)) harr)⟩
/-- A first part that is walked as everywhere. -/
theorem wpF_seq_k {x y : Code} (h : ∀ K : Act → World → Prop, (∀ a w, y.wpF f P Q a w → K a w) → x.wp P (Exit.then K Q) a w) : (Code.seq x y).wpF f P Q a w :=
  wpF_seq (wpF_of_wp (h _ fun _ _ h => h))
theorem wpF_block {id : Nat} {c : Code} (h : c.wpF f P (Exit.inBlock id Q) a w) : (Code.block id c).wpF f P Q a w := by
  intro b k cs hro hb
  have h0 : (lone (b.atR a (.code (.block id c) :: k)) cs w).fenced P Fence.wide := fenced_wide _ _
  obtain ⟨e, a₁, w₁, hq, harr⟩ := h b (.inBlock id :: k) cs hro hb
  cases e with
  | normal => exact ⟨.normal, a₁, w₁, hq, .head h0 stepR_block (StepsIn.trans harr (.one (fenced_wide _ _) stepR_inBlock))⟩
  | exit id' =>
    by_cases hid : id' = id
    · simp only [Exit.inBlock, hid, if_true] at hq
      exact ⟨.normal, a₁, w₁, hq, .head h0 stepR_block (harr.1 k (by simp [exitTo, hid]))⟩
    · simp only [Exit.inBlock, hid, if_false] at hq
      have this : (id == id') = false := by simp; exact fun h => hid h.symm
      have hx : exitTo id' (.inBlock id :: k) = exitTo id' k := by simp [exitTo, this]
      exact ⟨.exit id', a₁, w₁, hq, fun k' hk => .head h0 stepR_block (harr.1 k' (by rw [hx]; exact hk)),
        fun hr' hk => let ⟨k₁, h1, h2⟩ := harr.2 hr' (by rw [hx]; exact hk); ⟨k₁, h1, .head h0 stepR_block h2⟩⟩
  | goto l =>
    have hx : gotoIn l (.inBlock id :: k) = gotoIn l k := by simp [gotoIn]
    exact ⟨_, a₁, w₁, hq, fun k' hk => .head h0 stepR_block (harr.1 k' (by rw [hx]; exact hk)),
      fun hr' hk => let ⟨k₁, h1, h2⟩ := harr.2 hr' (by rw [hx]; exact hk); ⟨k₁, h1, .head h0 stepR_block h2⟩⟩
  | ret => exact ⟨_, a₁, w₁, hq, .of_steps (.one h0 stepR_block) harr⟩
  | panic ch => exact ⟨_, a₁, w₁, hq, .of_steps (.one h0 stepR_block) harr⟩
  | outgrown => exact ⟨_, a₁, w₁, hq, .of_steps (.one h0 stepR_block) harr⟩
/-- The statement, where no round leaves the loop: it ends, or a round's panic comes up. -/
theorem wpF_rangeFunc {g : Operand} {ps : Array Tmp} {assign body : Code} {gf : FuncId} {lb : Array Value} (hg : a.eval g = .func (.func gf) #[] lb) (eg : ∀ args w, (callFunc gf args).run P w = .ok (.enter gf args) w)
    (h : CallsIn Fence.wide 0 P gf (#[.func (.yield (w.heap.size + 1)) #[] #[]] ++ lb)
      ((w.alloc (.deferred (some []))).alloc (.loop { state := .ready, pending := none, fn := f, tmps := a.tmps, params := ps, assign := assign, body := body, defers := w.heap.size })) fun
      | .returned _, w₃ => ∃ rec : Loop, w₃.heap[w.heap.size + 1]? = some (.loop rec) ∧ rec.state = .ready ∧ rec.pending = none ∧ Q .normal { a with defers := { target := .collected w.heap.size, args := #[] } :: a.defers } (w₃.putObj (w.heap.size + 1) (.loop { rec with state := .exhausted }))
      | .panicked chain, w₃ => Q (.panic chain) { a with defers := { target := .collected w.heap.size, args := #[] } :: a.defers } w₃
      | .outgrown, _ => False) :
    (Code.rangeFunc g ps assign body).wpF f P Q a w := by
  intro b k cs hro hb
  have he := run_enterLoop_outer (P := P) (w := w) f a.tmps ps assign body
  have he2 : (Instr.enterLoop b.fn a.tmps ps assign body b.roundOf).run P w = .ok (w.heap.size + 1, [{ target := .collected w.heap.size, args := #[] }]) ((w.alloc (.deferred (some []))).alloc (.loop { state := .ready, pending := none, fn := f, tmps := a.tmps, params := ps, assign := assign, body := body, defers := w.heap.size })) := by rw [hro, hb]; exact he
  have hres : (resolve a.eval (rangeCall g (w.heap.size + 1)) 0).run P ((w.alloc (.deferred (some []))).alloc (.loop { state := .ready, pending := none, fn := f, tmps := a.tmps, params := ps, assign := assign, body := body, defers := w.heap.size })) =
      .ok { target := .fn (.func gf) lb, args := #[.func (.yield (w.heap.size + 1)) #[] #[]] } ((w.alloc (.deferred (some []))).alloc (.loop { state := .ready, pending := none, fn := f, tmps := a.tmps, params := ps, assign := assign, body := body, defers := w.heap.size })) := by
    simp only [resolve, hg]
    simp [go_sem]
  have hinv : (invoke (.fn (.func gf) lb) #[.func (.yield (w.heap.size + 1)) #[] #[]]).run P ((w.alloc (.deferred (some []))).alloc (.loop { state := .ready, pending := none, fn := f, tmps := a.tmps, params := ps, assign := assign, body := body, defers := w.heap.size })) =
      .ok (.enter gf (#[.func (.yield (w.heap.size + 1)) #[] #[]] ++ lb)) ((w.alloc (.deferred (some []))).alloc (.loop { state := .ready, pending := none, fn := f, tmps := a.tmps, params := ps, assign := assign, body := body, defers := w.heap.size })) := by
    simp [invoke, go_sem, eg]
  have henter := stepR_rangeFunc (P := P) (b := b) (a := a) (k := k) (cs := cs) (w := w) he2 hres hinv
  obtain ⟨e, w₃, fr, hR, hsteps, hfn, hleave⟩ := h.2 (b.atR { a with defers := [{ target := .collected w.heap.size, args := #[] }] ++ a.defers } (.inRangeFunc (w.heap.size + 1) :: k) :: cs) (room_wide _)
  cases e with
  | outgrown => exact hR.elim
  | returned v =>
    obtain ⟨rec, hl, hr1, hr2, hQ⟩ := hR
    have hend : (Instr.endLoop (w.heap.size + 1)).run P w₃ = .ok none (w₃.putObj (w.heap.size + 1) (.loop { rec with state := .exhausted })) := by rw [run_endLoop (P := P) hl (by rw [hr1]; simp), hr2]
    refine ⟨.normal, _, _, hQ, .head (fenced_wide _ _) henter (StepsIn.trans hsteps (.head (fenced_wide _ _) ?_ (.one (fenced_wide _ _) (stepR_endRangeFunc hend))))⟩
    rw [← finish_atR_inRangeFunc (w.heap.size + 1) v]
    exact step_leave_returned hleave
  | panicked chain =>
    refine ⟨.panic chain, _, w₃, hR, .inRangeFunc (w.heap.size + 1) :: k, .head (fenced_wide _ _) henter (StepsIn.trans hsteps (.one (fenced_wide _ _) ?_))⟩
    rw [← Frame.raise_atR]
    exact step_leave_panicked hleave
end
/-- 'Leaves' with the marks of ranges over functions taken in. -/
def LeavesM (P : Program) (fn : Func) (tmps : Array Value) (R : Ending → World → Prop) : List Deferred → FrameMode → World → Prop
  | [], u, w => Leaves P fn tmps R [] u w
  | d :: ds, u, w => u ≠ .run ∧
      ((∃ r w', d.target = .collected r ∧ (Instr.takeDeferred r).run P w = .ok [] w' ∧ LeavesM P fn tmps R ds u w') ∨
       (∃ fv cap f args, d.target = .fn fv cap ∧ (invoke d.target d.args).run P w = .ok (.enter f args) w ∧
        CallsD P f args u w fun
          | .returned _, u', w' => LeavesM P fn tmps R ds (settle u') w'
          | .panicked chain, u', w' => LeavesM P fn tmps R ds (raised u' chain) w'
          | .outgrown, _, w' => R .outgrown w'))
section
variable {f : FuncId} {P : Program} {Q : Exit → Act → World → Prop} {a : Act} {w : World}
theorem leaves_stepsM {fn : Func} {tmps : Array Value} {R : Ending → World → Prop} : ∀ (ds : List Deferred) (u : FrameMode) (w : World) (fr : Frame)
    (cs : List Frame), fr.mode = u → fr.defers = ds → fr.tmps = tmps → P.funcs[fr.fn]? = some fn → fr.kind = .normal → LeavesM P fn tmps R ds u w →
    ∃ e w' fr', R e w' ∧ Comes P (lone fr cs w) (lone fr' cs w') e ∧ fr'.fn = fr.fn ∧ fr'.leaving P w' e := by
  intro ds
  induction ds with
  | nil => exact fun u w fr cs hu hd ht hf hk h => leaves_steps [] u w fr cs hu hd ht hf hk h
  | cons d ds ih =>
    intro u w fr cs hu hd ht hf hk h
    obtain ⟨hrun, h⟩ := h
    rcases h with ⟨r, w', htar, htake, hrest⟩ | ⟨fv, cap, f, args, htar, hinv, hcall⟩
    · have h1 := step_collected (cs := cs) (hu ▸ hrun) hd htar htake
      obtain ⟨e', w'', fr', hR', hs', hfn', hl'⟩ := ih u w' { fr with defers := [] ++ ds } cs hu rfl ht hf hk hrest
      exact ⟨e', w'', fr', hR', Comes.of_steps (.one h1) hs', hfn', hl'⟩
    · have h1 := step_defer (cs := cs) (hu ▸ hrun) hd htar hinv
      obtain ⟨e, u', w', frX, hR, hsteps, hkX, hgo⟩ := hcall { fr with defers := ds } cs hu
      cases e with
      | returned v =>
        have h2 := step_going_returned (c := { { fr with defers := ds } with mode := u' }) (cs := cs) hkX hgo
        obtain ⟨e', w'', fr', hR', hs', hfn', hl'⟩ := ih (settle u') w' { { { fr with defers := ds } with mode := u' } with mode := settle u' } cs rfl rfl ht hf hk hR
        exact ⟨e', w'', fr', hR', Comes.of_steps (.head h1 (Steps.trans hsteps (.one h2))) hs', hfn', hl'⟩
      | panicked chain =>
        have h2 := step_going_panicked (c := { { fr with defers := ds } with mode := u' }) (cs := cs) hgo
        obtain ⟨e', w'', fr', hR', hs', hfn', hl'⟩ := ih (raised u' chain) w' { { { fr with defers := ds } with mode := u' } with mode := raised u' chain } cs rfl rfl ht hf hk hR
        exact ⟨e', w'', fr', hR', Comes.of_steps (.head h1 (Steps.trans hsteps (.one h2))) hs', hfn', hl'⟩
      | outgrown => exact ⟨.outgrown, w', fr, hR, Outgrown.of_steps (.one h1) hsteps, rfl, trivial⟩
/-- What the body of a function must achieve, deferred calls, marks and all. -/
def bodyPostF (P : Program) (fn : Func) (R : Ending → World → Prop) : Exit → Act → World → Prop
  | .normal, a, w | .ret, a, w => LeavesM P fn a.tmps R a.defers .returning w
  | .panic chain, a, w => LeavesM P fn a.tmps R a.defers (.panicking chain) w
  | .outgrown, _, w => R .outgrown w
  | _, _, _ => False
/-- A function's contract from its body. -/
theorem callsF {fn : Func} {c : Code} {args : Array Value} {R : Ending → World → Prop} (hf : P.funcs[f]? = some fn) (hb : fn.body = some c)
    (h : c.wpF f P (bodyPostF P fn R) { tmps := args ++ Array.replicate (fn.ntmps - args.size) undef, defers := [] } w) : Calls P f args w R := by
  intro cs
  let b : Frame := { (default : Frame) with fn := f, kind := .normal, roundOf := none }
  have henter : Frame.enter P f args .normal =
      b.atR { tmps := args ++ Array.replicate (fn.ntmps - args.size) undef, defers := [] } [.code c] := by
    simp [Frame.enter, Frame.atR, hf, hb, b]
  obtain ⟨e, a', w', hq, harr⟩ := h b [] cs rfl rfl
  rw [← henter] at harr
  cases e with
  | normal =>
    obtain ⟨e', w'', fr', hR, hs, hfn, hl⟩ := leaves_stepsM a'.defers .returning w' { b.atR a' [] with mode := .returning } cs rfl rfl rfl hf rfl hq
    exact ⟨e', w'', fr', hR, Comes.of_steps (Steps.trans (stepsIn_wide.1 harr) (.one (stepR_end rfl))) hs, hfn, hl⟩
  | ret =>
    obtain ⟨todo, hs₀⟩ := harr.1 rfl
    obtain ⟨e', w'', fr', hR, hs, hfn, hl⟩ := leaves_stepsM a'.defers .returning w' { b.atR a' todo with mode := .returning } cs rfl rfl rfl hf rfl hq
    exact ⟨e', w'', fr', hR, Comes.of_steps (stepsIn_wide.1 hs₀) hs, hfn, hl⟩
  | panic chain =>
    obtain ⟨todo, hs₀⟩ := harr
    obtain ⟨e', w'', fr', hR, hs, hfn, hl⟩ := leaves_stepsM a'.defers (.panicking chain) w' { b.atR a' todo with mode := .panicking chain } cs rfl rfl rfl hf rfl hq
    exact ⟨e', w'', fr', hR, Comes.of_steps (stepsIn_wide.1 hs₀) hs, hfn, hl⟩
  | exit id => exact hq.elim
  | goto l => exact hq.elim
  | outgrown => exact ⟨.outgrown, w', b, hq, harr.resolve_left (by simp [b]), rfl, trivial⟩
theorem leavesM_mark {fn : Func} {tmps : Array Value} {R : Ending → World → Prop} {r : Nat} {ds : List Deferred} {u : FrameMode} (hu : u ≠ .run) (h : w.heap[r]? = some (.deferred (some [])))
    (hr : LeavesM P fn tmps R ds u (w.putObj r (.deferred none))) : LeavesM P fn tmps R ({ target := .collected r, args := #[] } :: ds) u w :=
  ⟨hu, .inl ⟨r, _, rfl, run_takeDeferred h, hr⟩⟩
theorem leavesM_fn {fn : Func} {tmps : Array Value} {R : Ending → World → Prop} {fv : Fn} {cap dargs : Array Value} {ds : List Deferred} {u : FrameMode} {g : FuncId} {args : Array Value} (hu : u ≠ .run)
    (hi : (invoke (.fn fv cap) dargs).run P w = .ok (.enter g args) w)
    (h : CallsD P g args u w fun
          | .returned _, u', w' => LeavesM P fn tmps R ds (settle u') w'
          | .panicked chain, u', w' => LeavesM P fn tmps R ds (raised u' chain) w'
          | .outgrown, _, w' => R .outgrown w') : LeavesM P fn tmps R ({ target := .fn fv cap, args := dargs } :: ds) u w :=
  ⟨hu, .inr ⟨fv, cap, g, args, rfl, hi, h⟩⟩
end
end Go
/-
  Walks over package words: the deferred call of Lines.
-/
namespace Go.Proofs.YtlamhpiiikcpiaaGreatDoor
open Go.RowKit
set_option linter.unusedVariables false
set_option linter.unusedSimpArgs false
set_option maxHeartbeats 400000 in
set_option maxRecDepth 20000 in
theorem lcaught_idle (p q r t : Addr) (w : World) :
    CallsD Tryz.prog 81 #[.pointer (some p), .pointer (some q), .pointer (some r), .pointer (some t)] .returning w fun e u' w' => e = .returned (.tuple #[]) ∧ u' = .returning ∧ w = w' := by
  refine callsD_of_wpS Tryz.func81 rfl fun c₀ cs hu => ?_
  simp only [Tryz.ntmps81, List.size_toArray, List.length_cons, List.length_nil, Nat.reduceAdd, Nat.reduceSub, Array.replicate_succ,
     Array.replicate_zero, List.push_toArray, List.append_toArray, List.nil_append, List.cons_append]
  apply wpS_seq
  apply wpS_region
  simp [wpOpsS, go_sem, recoverD, hu, Exit.thenS]
  have HU := Lib.hid hu
  clear hu
  apply wpS_of_wp
  generalize hQ : (fun e a' w' => bodyPostS _ _ _ _ _ e a' _ w') = Q
  have HQ := Lib.hid hQ
  clear hQ
  go_wp2_with fail
  rw [← HQ.out]
  exact ⟨rfl, _, by rw [← HU.out], .tuple #[], results_none rfl _ _ _, rfl, rfl, rfl⟩
theorem run_assert_wfault (x : Array Value) (w : World) :
    (Instr.typeAssert (.iface 156 (.agg x)) 20 156 true).run Tryz.prog w = .ok (.tuple #[.agg x, .bool true]) w := by
  kernel_rfl
set_option maxHeartbeats 1600000 in
set_option maxRecDepth 20000 in
theorem lcaught_catches (N : Nat) (w : World) (num col : Int) (v0 v1 v2 v3 : Value) (older : List PanicEntry) (hN : N + 3 < w.heap.size)
    (c0 : w.cell? ⟨N, 0, none⟩ = some v0) (c1 : w.cell? ⟨N + 1, 0, none⟩ = some v1) (c2 : w.cell? ⟨N + 2, 0, none⟩ = some v2) (c3 : w.cell? ⟨N + 3, 0, none⟩ = some v3)
    (z0 : w.frozen? ⟨N, 0, none⟩ = false) (z1 : w.frozen? ⟨N + 1, 0, none⟩ = false) (z2 : w.frozen? ⟨N + 2, 0, none⟩ = false) (z3 : w.frozen? ⟨N + 3, 0, none⟩ = false) :
    CallsD Tryz.prog 81 #[.pointer (some ⟨N, 0, none⟩), .pointer (some ⟨N + 1, 0, none⟩), .pointer (some ⟨N + 2, 0, none⟩), .pointer (some ⟨N + 3, 0, none⟩)] (.panicking ({ v := .iface 156 (.agg #[.int .i64 num, .int .i64 col]), recovered := false } :: older)) w fun e u' w' =>
      e = .returned (.tuple #[]) ∧ u' = .panicking ({ v := .iface 156 (.agg #[.int .i64 num, .int .i64 col]), recovered := true } :: older) ∧ Below N w w' ∧
      w'.cell? ⟨N, 0, none⟩ = some (.slice none 0 0) ∧ w'.cell? ⟨N + 1, 0, none⟩ = some (.int .i64 num) ∧ w'.cell? ⟨N + 2, 0, none⟩ = some (.int .i64 col) ∧ w'.cell? ⟨N + 3, 0, none⟩ = some (.int .i64 30) := by
  have hta := run_assert_wfault #[.int .i64 num, .int .i64 col] w
  obtain ⟨W1, hW1⟩ : ∃ W1, W1 = w.alloc (.cells #[.int .i64 num, .int .i64 col] 156) := ⟨_, rfl⟩
  have hB : Below w.heap.size w W1 := by rw [hW1]; exact (Below.refl _ _).alloc (Nat.le_refl _) _
  have hf : ∀ o, o < w.heap.size → W1.frozen? ⟨o, 0, none⟩ = w.frozen? ⟨o, 0, none⟩ := fun o h => (But.below hB).frozen (S := fun _ => False) (p := ⟨o, 0, none⟩) h (fun h => h)
  have d0 := (hB.cell (p := ⟨N, 0, none⟩) (by show N < _; omega)).trans c0
  have d1 := (hB.cell (p := ⟨N + 1, 0, none⟩) (by show N + 1 < _; omega)).trans c1
  have d2 := (hB.cell (p := ⟨N + 2, 0, none⟩) (by show N + 2 < _; omega)).trans c2
  have d3 := (hB.cell (p := ⟨N + 3, 0, none⟩) (by show N + 3 < _; omega)).trans c3
  have y0 := (hf N (by omega)).trans z0
  have y1 := (hf (N + 1) (by omega)).trans z1
  have y2 := (hf (N + 2) (by omega)).trans z2
  have y3 := (hf (N + 3) (by omega)).trans z3
  have f0 : W1.cell? ⟨w.heap.size, 0, none⟩ = some (.int .i64 num) := by rw [hW1]; simp [go_sem]
  have f1 : W1.cell? ⟨w.heap.size, 1, none⟩ = some (.int .i64 col) := by rw [hW1]; simp [go_sem]
  have HW1 := Lib.hid hW1
  have HB := Lib.hid hB
  have hn0 : ¬ (w.heap.size = N) := by omega
  clear hB hf c0 c1 c2 c3 z0 z1 z2 z3 hW1
  refine callsD_of_wpS Tryz.func81 rfl fun c₀ cs hu => ?_
  simp only [Tryz.ntmps81, List.size_toArray, List.length_cons, List.length_nil, Nat.reduceAdd, Nat.reduceSub, Array.replicate_succ,
     Array.replicate_zero, List.push_toArray, List.append_toArray, List.nil_append, List.cons_append]
  apply wpS_seq
  apply wpS_region
  simp [wpOpsS, go_sem, recoverD, hu, Exit.thenS]
  have HU := Lib.hid hu
  clear hu
  apply wpS_of_wp
  generalize hQ : (fun e a' w' => bodyPostS _ _ _ _ _ e a' _ w') = Q
  have HQ := Lib.hid hQ
  clear hQ
  go_wp2_with fail
  rw [← HW1.out]
  go_region
  all_goals
    go_wp2_with fail
    rw [← HQ.out]
    refine ⟨rfl, _, rfl, .tuple #[], results_none rfl _ _ _, rfl, rfl, ?_⟩
    have e : ∀ i j, i ≠ j → (⟨N + i, 0, none⟩ : Addr) ≠ ⟨N + j, 0, none⟩ := fun i j h h2 => by injection h2 with h2 _ _; omega
    have k1 := cell_set_same (.slice none 0 0) d0
    have k2 := cell_set_same (w := W1.setCell ⟨N, 0, none⟩ (.slice none 0 0)) (a := ⟨N + 1, 0, none⟩) (.int .i64 num) ((cell_set_other _ (e 0 1 (by omega))).trans d1)
    have k3 := cell_set_same (w := (W1.setCell ⟨N, 0, none⟩ (.slice none 0 0)).setCell ⟨N + 1, 0, none⟩ (.int .i64 num)) (a := ⟨N + 2, 0, none⟩) (.int .i64 col) ((cell_set_other _ (e 1 2 (by omega))).trans ((cell_set_other _ (e 0 2 (by omega))).trans d2))
    have k4 := cell_set_same (w := ((W1.setCell ⟨N, 0, none⟩ (.slice none 0 0)).setCell ⟨N + 1, 0, none⟩ (.int .i64 num)).setCell ⟨N + 2, 0, none⟩ (.int .i64 col)) (a := ⟨N + 3, 0, none⟩) (.int .i64 30) ((cell_set_other _ (e 2 3 (by omega))).trans ((cell_set_other _ (e 1 3 (by omega))).trans ((cell_set_other _ (e 0 3 (by omega))).trans d3)))
    refine ⟨?_, ?_, ?_, ?_, k4⟩
    · exact Below.drew (((((HB.out.mono (show N ≤ w.heap.size by omega)).setCell (p := ⟨N, 0, none⟩) (Nat.le_refl _) _).setCell (p := ⟨N + 1, 0, none⟩) (by show N ≤ N + 1; omega) _).setCell (p := ⟨N + 2, 0, none⟩) (by show N ≤ N + 2; omega) _).setCell (p := ⟨N + 3, 0, none⟩) (by show N ≤ N + 3; omega) _)
    · exact (cell_set_other _ (e 3 0 (by omega))).trans ((cell_set_other _ (e 2 0 (by omega))).trans ((cell_set_other _ (e 1 0 (by omega))).trans k1))
    · exact (cell_set_other _ (e 3 1 (by omega))).trans ((cell_set_other _ (e 2 1 (by omega))).trans k2)
    · exact (cell_set_other _ (e 3 2 (by omega))).trans k3
end Go.Proofs.YtlamhpiiikcpiaaGreatDoor
/-
  Walks: the iterator over a text's lines.
-/
namespace Go.Proofs.YtlamhpiiikcpiaaGreatDoor
open Go.RowKit Go.Shelf
set_option linter.unusedVariables false
set_option linter.unusedSimpArgs false
attribute [local go_sem] Oper.semAt_some
/-- What the iterator's captured variables hold. -/
structure ItSt (N : Nat) (sc : ByteArray) (W : World) : Prop where
  s : W.heap[N + 6]? = some (.cells #[.string sc] 9 (0, 0))
  p : W.heap[N + 7]? = some (.cells #[.string ⟨#[10]⟩] 9 (0, 0))
  v : W.heap[N + 8]? = some (.cells #[.int .i64 0] 3 (0, 0))
theorem ItSt.cells {N : Nat} {sc : ByteArray} {W : World} (h : ItSt N sc W) : W.cell? ⟨N + 6, 0, none⟩ = some (.string sc) ∧ W.cell? ⟨N + 7, 0, none⟩ = some (.string ⟨#[10]⟩) ∧ W.cell? ⟨N + 8, 0, none⟩ = some (.int .i64 0) ∧ W.frozen? ⟨N + 6, 0, none⟩ = false := by
  refine ⟨?_, ?_, ?_, ?_⟩
  · simp [World.cell?, h.s]
  · simp [World.cell?, h.p]
  · simp [World.cell?, h.v]
  · simp [World.frozen?, h.s]
theorem one_set {W : World} {b : Nat} {v : Value} {t : TypeId} (h : W.heap[b]? = some (.cells #[v] t (0, 0))) (u : Value) : (W.setCell ⟨b, 0, none⟩ u).heap[b]? = some (.cells #[u] t (0, 0)) := by
  obtain ⟨hlt, he⟩ := Array.getElem?_eq_some_iff.1 h
  simp [World.setCell, hlt, Array.getElem_modify, he]
theorem far_set {W : World} {a : Addr} {k : Nat} (u : Value) (h : k ≠ a.block) : (W.setCell a u).heap[k]? = W.heap[k]? := Below.heap_setCell _ _ _ _ h
theorem ItSt.set {N : Nat} {sc : ByteArray} {W : World} (h : ItSt N sc W) (u : ByteArray) : ItSt N u (W.setCell ⟨N + 6, 0, none⟩ (.string u)) :=
  ⟨one_set h.s _, (far_set _ (by show N + 7 ≠ N + 6; omega)).trans h.p, (far_set _ (by show N + 8 ≠ N + 6; omega)).trans h.v⟩
theorem index_none_mem {l : List UInt8} (h : Lib.indexByte l 10 = -1) : (10 : UInt8) ∉ l := by
  intro hm
  obtain ⟨k, hk, e⟩ := List.getElem_of_mem hm
  exact Lib.indexByte_none h k (by rw [List.getElem?_eq_getElem hk, e])
theorem index_some_split {l : List UInt8} {i : Nat} (h : Lib.indexByte l 10 = i) : i < l.length ∧ Wd.split l = l.take i :: Wd.split (l.drop (i + 1)) := by
  obtain ⟨h1, h2⟩ := Lib.indexByte_some h
  have hi : i < l.length := by
    rcases Nat.lt_or_ge i l.length with h | h
    · exact h
    · rw [List.getElem?_eq_none h] at h1; cases h1
  refine ⟨hi, ?_⟩
  have e : l = l.take i ++ 10 :: l.drop (i + 1) := by
    have hd := List.drop_eq_getElem_cons hi
    rw [List.getElem?_eq_getElem hi] at h1
    injection h1 with h1
    rw [h1] at hd
    rw [← hd, List.take_append_drop]
  have hno : (10 : UInt8) ∉ l.take i := by
    intro hm
    obtain ⟨k, hk, e2⟩ := List.getElem_of_mem hm
    have hk2 : k < i := by rw [List.length_take] at hk; omega
    refine h2 k hk2 ?_
    rw [List.getElem?_eq_getElem (by omega)]
    rw [List.getElem_take] at e2
    rw [e2]
  have := Wd.split_some (l.take i) (l.drop (i + 1)) hno
  rw [← e] at this
  exact this
/-- How long the text is that a cell holds. -/
def cellS (w : World) (a : Addr) : Nat := match w.cell? a with | some (.string s) => s.size | _ => 0
def IterPost (L : List (List UInt8)) (J : List (List UInt8) → World → Prop) (Jp : List PanicEntry → World → Prop) (e : Ending) (W' : World) : Prop :=
  ((∃ v, e = .returned v) ∧ J L W') ∨ ∃ ch, e = .panicked ch ∧ Jp ch W'
set_option maxHeartbeats 4000000 in
set_option maxRecDepth 20000 in
theorem iter_any (n l N : Nat) (hn : 1 ≤ n) (s : ByteArray) (hs : s.size ≤ 1048576) (J : List (List UInt8) → World → Prop) (Jp : List PanicEntry → World → Prop)
    (hset : ∀ pre W u, J pre W → J pre (W.setCell ⟨N + 6, 0, none⟩ (.string u)))
    (hY : ∀ pre x rest sc W, Wd.split s.data.toList = pre ++ x :: rest → J pre W → ItSt N sc W → YieldAt Fence.wide (n - 1) Tryz.prog l #[.string (Wd.mkB x)] W fun e W' =>
      (e = .returned (.bool true) ∧ J (pre ++ [x]) W' ∧ ItSt N sc W') ∨ (∃ ch, e = .panicked ch ∧ Jp ch W'))
    (W : World) (h0 : J [] W) (hit : ItSt N s W) :
    CallsIn Fence.wide n Tryz.prog 133 #[.func (.yield l) #[] #[], .pointer (some ⟨N + 7, 0, none⟩), .pointer (some ⟨N + 6, 0, none⟩), .pointer (some ⟨N + 8, 0, none⟩)] W (IterPost (Wd.split s.data.toList) J Jp) := by
  have HIt := Lib.hid hit
  have HJ := Lib.hid h0
  have HY := Lib.hid hY
  have HS := Lib.hid hset
  obtain ⟨c6, c7, c8, f6⟩ := hit.cells
  clear hit h0 hY hset
  refine callsIn_of_wp Tryz.func133 rfl trivial ?_ rfl
  simp only [Tryz.ntmps133, List.size_toArray, List.length_cons, List.length_nil, Nat.reduceAdd, Nat.reduceSub, Array.replicate_succ, Array.replicate_zero, List.push_toArray, List.append_toArray, List.nil_append, List.cons_append]
  gi_wp2
  gi_loopw [7] (fun _ wr => ∃ (pre : List (List UInt8)) (sc : ByteArray), Hid (Wd.split s.data.toList = pre ++ Wd.split sc.data.toList) ∧ sc.size ≤ 1048576 ∧ Hid (J pre wr) ∧ Hid (ItSt N sc wr))
    (fun _ wr => cellS wr ⟨N + 6, 0, none⟩)
  case atStart => exact ⟨[], s, by show _ = _; rw [List.nil_append], hs, HJ, HIt⟩
  case round =>
    obtain ⟨pre, sc, hsp, hsc, hj, hI⟩ := hrel
    obtain ⟨d6, d7, d8, g6⟩ := hI.out.cells
    have hm : cellS wr ⟨N + 6, 0, none⟩ = sc.size := by unfold cellS; rw [d6]
    have HM := Lib.hid hm
    clear hm c6 c7 c8 f6
    obtain ⟨z, hz⟩ : ∃ z, Lib.indexByte sc.data.toList 10 = z := ⟨_, rfl⟩
    have HX : Hid (CallsIn Fence.wide (n - 1) Tryz.prog 101 #[.string sc, .string ⟨#[10]⟩] wr fun e w' => e = .returned (.int .i64 z) ∧ wr = w') :=
      callsIn_wide.2 ((Tryz.strings_Index_one sc 10 wr).mono (by rintro e w' ⟨rfl, rfl⟩; rw [hz]; exact ⟨rfl, rfl⟩))
    by_cases hz0 : z < 0
    · have hz1 : z = -1 := by have := Lib.indexByte_ge sc.data.toList 10; omega
      have hsp2 : Wd.split sc.data.toList = [sc.data.toList] := Wd.split_none _ (index_none_mem (by rw [hz, hz1]))
      obtain ⟨fn, tmps, assign, body, hy, hR⟩ := HY.out pre sc.data.toList [] sc wr (by rw [hsp.out, hsp2]) hj.out hI.out
      rw [Wd.mkB_of] at hy
      have HR := Lib.hid hR
      have HE : Hid (Wd.split s.data.toList = pre ++ [sc.data.toList]) := by show _ = _; rw [hsp.out, hsp2]
      clear hR hz hz1 hsp2
      gi_wp2_with (refine ⟨trivial, ?_⟩; gi_at_call 101; refine HX.out.mono ?_; rintro e w' ⟨rfl, rfl⟩)
      refine HR.out.mono ?_
      rintro e W3 (⟨rfl, hJ3, hI3⟩ | ⟨ch, rfl, hP⟩)
      · have H3 := Lib.hid hJ3
        clear hJ3 hI3
        gi_wp2
        go_end0
        exact .inl ⟨⟨_, rfl⟩, by rw [HE.out]; exact H3.out⟩
      · exact ⟨rfl, .inr ⟨ch, rfl, hP⟩⟩
    · obtain ⟨i, hi⟩ : ∃ i : Nat, z = i := ⟨z.toNat, by omega⟩
      subst hi
      obtain ⟨hil, hsp2⟩ := index_some_split hz
      have hlen : sc.data.toList.length = sc.size := (Lib.size_eq sc).symm
      have hii : i < sc.size := by omega
      obtain ⟨fn, tmps, assign, body, hy, hR⟩ := HY.out pre (sc.data.toList.take i) (Wd.split (sc.data.toList.drop (i + 1))) sc wr (by rw [hsp.out, hsp2]) hj.out hI.out
      have hmk : Wd.mkB (sc.data.toList.take i) = sc.extract 0 i := by rw [← Wd.mkB_of (sc.extract 0 i), Lib.extract_data]; simp
      rw [hmk] at hy
      have HR := Lib.hid hR
      have hdr : (sc.extract (i + 1) sc.size).data.toList = sc.data.toList.drop (i + 1) := Lib.extract_to_end _ _
      have HE : Hid (Wd.split s.data.toList = (pre ++ [sc.data.toList.take i]) ++ Wd.split (sc.extract (i + 1) sc.size).data.toList) := by show _ = _; rw [hsp.out, hsp2, hdr]; simp
      have hsz : (sc.extract (i + 1) sc.size).size = sc.size - (i + 1) := by rw [ByteArray.size_extract]; omega
      have HZ := Lib.hid hsz
      have hi0 : (0 : Int) ≤ (i : Int) := by omega
      have hi1 : (i : Int) ≤ (sc.size : Int) := by omega
      have hi2 : (i : Int) + 1 ≤ (sc.size : Int) := by omega
      have hi3 : ((i : Int) + 1).toNat = i + 1 := by omega
      have hi4 : IntKind.i64.wrap ((i : Int) + 1) = (i : Int) + 1 := IntWalk.i64_in _ (by omega)
      have hi5 : (0 : Int) ≤ (i : Int) + 1 := by omega
      clear hR hz hsp2 hmk hdr hsz hil hlen
      gi_wp2_with (refine ⟨trivial, ?_⟩; gi_at_call 101; refine HX.out.mono ?_; rintro e w' ⟨rfl, rfl⟩)
      refine HR.out.mono ?_
      rintro e W3 (⟨rfl, hJ3, hI3⟩ | ⟨ch, rfl, hP⟩)
      · have H3 := Lib.hid hJ3
        have HI3 := Lib.hid hI3
        obtain ⟨e6, e7, e8, f6⟩ := hI3.cells
        clear hJ3 hI3 d6 d7 d8 g6
        gi_wp2
        go_roundw
        case rel => exact ⟨_, _, HE, by rw [HZ.out]; omega, HS.out _ _ _ H3.out, HI3.out.set _⟩
        case measure =>
          rw [HM.out]
          have : cellS (W3.setCell ⟨N + 6, 0, none⟩ (.string (sc.extract (i + 1) sc.size))) ⟨N + 6, 0, none⟩ = sc.size - (i + 1) := by
            unfold cellS; rw [cell_set_same _ e6]; exact HZ.out
          rw [this]; omega
      · exact ⟨rfl, .inr ⟨ch, rfl, hP⟩⟩
end Go.Proofs.YtlamhpiiikcpiaaGreatDoor
/-
  A region in a round's frame, out of the plain laws: where no operation of it is a defer statement.
-/
namespace Go
section
variable {P : Program} {ops : Array Oper} {Q : Exit → Act → World → Prop} {md : Region.Mode} {l n : Nat}
def isDefer : Op → Bool
  | .defer _ => true
  | _ => false
theorem rowsIn_wideR {row : String} {args : Array Value} {w : World} {R : Value → World → Prop} (h : Rows P row args w R) : RowsIn (Fence.wide.inRound l) n P row args w R :=
  fun c cs _ => let ⟨v, w', r, s⟩ := h c cs; ⟨v, w', r, stepsIn_wide.2 s⟩
theorem opWpIn_of_wp {o : Oper} {a : Act} {w : World} {K : Act → World → Prop} (hd : isDefer o.op = false) (h : o.wp P a w K Q) : o.wpIn (Fence.wide.inRound l) n P a w K Q := by
  refine ⟨fun f _ => trivial, ?_⟩
  have hs : o.semAt (Fence.wide.inRound l).round a.eval = execOp a.eval o := Oper.semAt_plain (Fence.wide.inRound l) _ _ (fun c hc => by rw [hc] at hd; cases hd)
  rw [hs]
  unfold Oper.wp at h
  generalize (execOp a.eval o).run P w = r at h
  cases r with
  | ok x w' =>
    cases x <;> simp only [Oper.upon] at h <;> simp only [Oper.uponIn]
    case value v => exact h
    case skip => exact h
    case defer d => exact h
    case enter f args => exact ⟨(fun h => by cases h), (callsIn_wide (n := n - 1)).2 (Calls.mono h fun e w'' he => by cases e <;> exact he)⟩
    case row row args => exact ⟨(fun h => by cases h), rowsIn_wideR h⟩
  | halt x w' =>
    cases x <;> simp only [Oper.upon] at h <;> simp only [Oper.uponIn]
    case panic v => exact h
theorem wpAnyIn_of_wpAny (hd : (ops.all fun o => !isDefer o.op) = true) (hno : ¬ LetsOut Q) : ∀ (fuel : Nat) (listed : Array Bool) (a : Act) (w : World), wpAny P md ops Q fuel listed a w → wpAnyIn (Fence.wide.inRound l) n P md ops Q fuel listed a w
  | 0, _, _, _, h => h
  | fuel + 1, listed, a, w, h => by
    refine ⟨h.1, fun i hi => ?_⟩
    have h1 := h.2 i hi
    unfold wpOp at h1
    unfold wpOpIn
    cases ho : ops[i]? with
    | none => simp only [ho] at h1 ⊢; exact wpAnyIn_of_wpAny hd hno fuel _ a w h1
    | some o =>
      simp only [ho] at h1 ⊢
      have hdo : isDefer o.op = false := by
        obtain ⟨hlt, he⟩ := Array.getElem?_eq_some_iff.1 ho
        have := (Array.all_eq_true.1 hd) i hlt
        rw [he] at this
        simpa using this
      split
      · rename_i hw
        rw [if_pos hw] at h1
        rcases h1 with h1 | ⟨_, h1⟩
        · exact Oper.wpIn_mono (fun a' w' h' => wpAnyIn_of_wpAny hd hno fuel _ a' w' h') (opWpIn_of_wp hdo h1)
        · exact absurd h1 hno
      · rename_i hw
        rw [if_neg hw] at h1
        exact ⟨fun f _ => trivial, wpAnyIn_of_wpAny hd hno fuel _ _ w h1⟩
/-- The beginning of a region in a round. -/
theorem wpIn_region_heldG (S : World → Prop) (z : Nat) {id : Nat} {a : Act} {w : World} (hm : P.follows .mixedOrders = true) (hd : (ops.all fun o => !isDefer o.op) = true) (hno : ¬ LetsOut Q)
    (h : wpAnyG P .any ops Q S z ops.size (Array.replicate ops.size false) a w.drew) : (Code.region id ops true).wpIn (Fence.wide.inRound l) n P Q a w :=
  wpIn_region_any hm (wpAnyIn_of_wpAny hd hno _ _ _ _ (wpAny_of_heldG _ _ _ _ h))
end
end Go
/-
  What Lines keeps between two lines.
-/
namespace Go.Proofs.YtlamhpiiikcpiaaGreatDoor
open Go.RowKit Go.Shelf
set_option linter.unusedVariables false
set_option linter.unusedSimpArgs false
/-- u reads as words, in blocks that are ok. -/
def RdsW (ok : Nat → Prop) (w : World) (u : Value) (ws : List Wrd) : Prop :=
  ∃ ad cap, u = .slice ad ws.length cap ∧ ws.length ≤ cap ∧ cap ≤ maxLen ∧ ∀ i (h : i < ws.length), ∃ b off, ad = some ⟨b, off, none⟩ ∧ b < w.heap.size ∧ ok b ∧
    w.cell? ⟨b, off + i * 3, none⟩ = some (.string ws[i].t) ∧ w.cell? ⟨b, off + i * 3 + 1, none⟩ = some (.int .i64 ws[i].l) ∧ w.cell? ⟨b, off + i * 3 + 2, none⟩ = some (.int .i64 ws[i].c)
theorem RdsW.but {ok S : Nat → Prop} {w w' : World} {u : Value} {ws : List Wrd} (h : RdsW ok w u ws) (hb : But S w w') (hs : ∀ b, ok b → ¬ S b) : RdsW ok w' u ws := by
  obtain ⟨ad, cap, h1, h2, h3, h4⟩ := h
  refine ⟨ad, cap, h1, h2, h3, fun i hi => ?_⟩
  obtain ⟨b, off, e, hl, hk, k0, k1, k2⟩ := h4 i hi
  exact ⟨b, off, e, Nat.lt_of_lt_of_le hl hb.size, hk, (hb.cell (p := ⟨b, off + i * 3, none⟩) hl (hs b hk)).trans k0, (hb.cell (p := ⟨b, off + i * 3 + 1, none⟩) hl (hs b hk)).trans k1, (hb.cell (p := ⟨b, off + i * 3 + 2, none⟩) hl (hs b hk)).trans k2⟩
theorem RdsW.below {ok : Nat → Prop} {w w' : World} {u : Value} {ws : List Wrd} (h : RdsW ok w u ws) (hb : Below w.heap.size w w') : RdsW ok w' u ws := h.but (S := fun _ => False) (But.below hb) (fun _ _ h => h)
theorem RdsW.mono {ok ok' : Nat → Prop} {w : World} {u : Value} {ws : List Wrd} (h : RdsW ok w u ws) (hk : ∀ b, b < w.heap.size → ok b → ok' b) : RdsW ok' w u ws := by
  obtain ⟨ad, cap, h1, h2, h3, h4⟩ := h
  refine ⟨ad, cap, h1, h2, h3, fun i hi => ?_⟩
  obtain ⟨b, off, e, hl, hk', k⟩ := h4 i hi
  exact ⟨b, off, e, hl, hk b hl hk', k⟩
theorem cellsW_get : ∀ (l : List Wrd) (i : Nat) (h : i < l.length), (cellsW l)[i * 3]? = some (.string l[i].t) ∧ (cellsW l)[i * 3 + 1]? = some (.int .i64 l[i].l) ∧ (cellsW l)[i * 3 + 2]? = some (.int .i64 l[i].c)
  | [], i, h => absurd h (Nat.not_lt_zero i)
  | x :: l, 0, _ => by simp [cellsW, encW]
  | x :: l, i + 1, h => by
    have := cellsW_get l i (by simpa using h)
    have e : cellsW (x :: l) = encW x ++ cellsW l := by simp [cellsW]
    rw [e, show (i + 1) * 3 = i * 3 + 3 by omega]
    simpa [encW] using this
theorem ownsRow_rdsW {w : World} {base : Nat} {v : Value} {ws : List Wrd} (h : w.ownsRow base 167 3 v ws.length (cellsW ws)) : RdsW (fun b => base ≤ b) w v ws := by
  obtain ⟨h1, h2⟩ := h
  rcases h2 with ⟨h2, h5⟩ | ⟨g, cap, cur, hv, hg, hh, hn, hc, hs, ht⟩
  · exact ⟨none, 0, by rw [h2, h5], by omega, Nat.zero_le _, fun i hi => by omega⟩
  · refine ⟨_, cap, hv, hn, hc, fun i hi => ?_⟩
    have key : ∀ j u, j < ws.length * 3 → (cellsW ws)[j]? = some u → w.cell? ⟨g, 0 + j, none⟩ = some u := fun j u hj hu => by
      rw [← ht, List.getElem?_take_of_lt (by omega)] at hu
      simp only [World.cell?, hh, Nat.zero_add]
      simpa using hu
    have h6 := cellsW_get ws i hi
    exact ⟨g, 0, rfl, (Array.getElem?_eq_some_iff.1 hh).1, hg, key _ _ (by omega) h6.1, key _ _ (by omega) h6.2.1, key _ _ (by omega) h6.2.2⟩
/-- v reads as lines of words, in blocks that are ok. -/
def RdsLn (ok : Nat → Prop) (w : World) (v : Value) (acc : List (List Wrd)) : Prop :=
  ∃ us : List Value, us.length = acc.length ∧ Rds w v us ∧ (∀ a n c, v = .slice (some a) n c → n ≠ 0 → ok a.block) ∧ ∀ i (h : i < us.length) (h' : i < acc.length), RdsW ok w us[i] acc[i]
theorem RdsLn.mono {ok ok' : Nat → Prop} {w : World} {v : Value} {acc : List (List Wrd)} (h : RdsLn ok w v acc) (hk : ∀ b, ok b → ok' b) : RdsLn ok' w v acc := by
  obtain ⟨us, h1, h2, h3, h4⟩ := h
  exact ⟨us, h1, h2, fun a n c e hn => hk _ (h3 a n c e hn), fun i h h' => (h4 i h h').mono fun b _ => hk b⟩
theorem RdsLn.but {ok S : Nat → Prop} {w w' : World} {v : Value} {acc : List (List Wrd)} (h : RdsLn ok w v acc) (hb : But S w w') (hs : ∀ b, ok b → ¬ S b) : RdsLn ok w' v acc := by
  obtain ⟨us, h1, h2, h3, h4⟩ := h
  exact ⟨us, h1, Rds.but h2 hb (fun a n c e hn => hs _ (h3 a n c e hn)), h3, fun i h h' => (h4 i h h').but hb hs⟩
theorem RdsLn.below {ok : Nat → Prop} {w w' : World} {v : Value} {acc : List (List Wrd)} (h : RdsLn ok w v acc) (hb : Below w.heap.size w w') : RdsLn ok w' v acc := h.but (S := fun _ => False) (But.below hb) (fun _ _ h => h)
/-- Between two lines: pre are those that have come, acc their words. -/
structure LnSt (N : Nat) (w : World) (s : ByteArray) (rec : Loop) (pre : List (List UInt8)) (acc : List (List Wrd)) (v : Value) (us : List Value) (W : World) : Prop where
  z0 : W.heap[N]? = some (.cells #[.slice none 0 0] 110 (0, 0))
  z1 : W.heap[N + 1]? = some (.cells #[.int .i64 0] 3 (0, 0))
  z2 : W.heap[N + 2]? = some (.cells #[.int .i64 0] 3 (0, 0))
  z3 : W.heap[N + 3]? = some (.cells #[.int .i64 0] 28 (0, 0))
  nb : W.heap[N + 4]? = some (.cells #[.int .i64 pre.length] 3 (0, 0))
  rw : W.heap[N + 5]? = some (.cells #[v] 110 (0, 0))
  df : W.heap[N + 9]? = some (.deferred (some []))
  lp : W.heap[N + 10]? = some (.loop rec)
  own : W.ownsRow (N + 11) 116 1 v us.length us
  len : us.length = acc.length
  rd : ∀ i (h : i < us.length) (h' : i < acc.length), RdsW (fun b => N + 11 ≤ b ∧ v.ownBlock ≠ some b) W us[i] acc[i]
  blw : Below N w W
  eq : ∀ rest, Wd.split s.data.toList = pre ++ rest → Wd.lines s.data.toList = (Wd.rows rest (pre.length + 1)).map (acc ++ ·)
  few : acc.length ≤ pre.length
theorem LnSt.size {N : Nat} {w : World} {s : ByteArray} {rec : Loop} {pre : List (List UInt8)} {acc : List (List Wrd)} {v : Value} {us : List Value} {W : World} (h : LnSt N w s rec pre acc v us W) : N + 11 ≤ W.heap.size := by
  have := (Array.getElem?_eq_some_iff.1 h.lp).1
  omega
theorem LnSt.set {N : Nat} {w : World} {s : ByteArray} {rec : Loop} {pre : List (List UInt8)} {acc : List (List Wrd)} {v : Value} {us : List Value} {W : World} (h : LnSt N w s rec pre acc v us W) (u : ByteArray) : LnSt N w s rec pre acc v us (W.setCell ⟨N + 6, 0, none⟩ (.string u)) := by
  have f : ∀ k, k ≠ N + 6 → (W.setCell ⟨N + 6, 0, none⟩ (.string u)).heap[k]? = W.heap[k]? := fun k hk => far_set _ hk
  exact ⟨(f _ (by omega)).trans h.z0, (f _ (by omega)).trans h.z1, (f _ (by omega)).trans h.z2, (f _ (by omega)).trans h.z3, (f _ (by omega)).trans h.nb, (f _ (by omega)).trans h.rw, (f _ (by omega)).trans h.df, (f _ (by omega)).trans h.lp,
    ownsRow_setCell_below h.own (by show N + 6 < N + 11; omega) _, h.len, fun i h1 h2 => (h.rd i h1 h2).but (S := fun k => k = N + 6) (But.set (S := fun k => k = N + 6) (a := ⟨N + 6, 0, none⟩) rfl _) (fun b hb e => by have := hb.1; omega), h.blw.setCell (p := ⟨N + 6, 0, none⟩) (by show N ≤ N + 6; omega) _, h.eq, h.few⟩
/-- What Lines leaves where a line is at fault. -/
structure LnBad (N : Nat) (w : World) (s : ByteArray) (num col : Nat) (W : World) : Prop where
  z0 : W.heap[N]? = some (.cells #[.slice none 0 0] 110 (0, 0))
  z1 : W.heap[N + 1]? = some (.cells #[.int .i64 0] 3 (0, 0))
  z2 : W.heap[N + 2]? = some (.cells #[.int .i64 0] 3 (0, 0))
  z3 : W.heap[N + 3]? = some (.cells #[.int .i64 0] 28 (0, 0))
  df : W.heap[N + 9]? = some (.deferred (some []))
  blw : Below N w W
  eq : Wd.lines s.data.toList = .error (num, col)
  sz : N + 11 ≤ W.heap.size
/-- A line that is at fault. -/
theorem LnSt.bad {N : Nat} {w : World} {s : ByteArray} {rec : Loop} {pre : List (List UInt8)} {acc : List (List Wrd)} {v : Value} {us : List Value} {W W' : World} (h : LnSt N w s rec pre acc v us W) {x : List UInt8} {rest : List (List UInt8)} (hs : Wd.split s.data.toList = pre ++ x :: rest) {p : Nat} (hp : Wd.line (pre.length + 1) x 0 = .error p)
    (hb : But (fun k => k = N + 4 ∨ k = N + 10) W W') : LnBad N w s (pre.length + 1) p W' := by
  have hsz := h.size
  have f : ∀ k, k < N + 11 → ¬ (k = N + 4 ∨ k = N + 10) → W'.heap[k]? = W.heap[k]? := fun k h1 h2 => hb.block k (by omega) h2
  refine ⟨(f _ (by omega) (by omega)).trans h.z0, (f _ (by omega) (by omega)).trans h.z1, (f _ (by omega) (by omega)).trans h.z2, (f _ (by omega) (by omega)).trans h.z3, (f _ (by omega) (by omega)).trans h.df, h.blw.trans (hb.toBelow (by omega) (fun k hk => by omega)), ?_, Nat.le_trans hsz hb.size⟩
  rw [h.eq _ hs]
  simp only [Wd.rows, hp]
  rfl
/-- A line without a word. -/
theorem LnSt.same {N : Nat} {w : World} {s : ByteArray} {rec rec' : Loop} {pre : List (List UInt8)} {acc : List (List Wrd)} {v : Value} {us : List Value} {W W' : World} (h : LnSt N w s rec pre acc v us W) {x : List UInt8} (hp : Wd.line (pre.length + 1) x 0 = .ok [])
    (hn : W'.heap[N + 4]? = some (.cells #[.int .i64 ((pre.length : Int) + 1)] 3 (0, 0))) (hl : W'.heap[N + 10]? = some (.loop rec')) (hb : But (fun k => k = N + 4 ∨ k = N + 10) W W') : LnSt N w s rec' (pre ++ [x]) acc v us W' := by
  have hsz := h.size
  have f : ∀ k, k < N + 11 → ¬ (k = N + 4 ∨ k = N + 10) → W'.heap[k]? = W.heap[k]? := fun k h1 h2 => hb.block k (by omega) h2
  refine ⟨(f _ (by omega) (by omega)).trans h.z0, (f _ (by omega) (by omega)).trans h.z1, (f _ (by omega) (by omega)).trans h.z2, (f _ (by omega) (by omega)).trans h.z3, by rw [hn]; simp, (f _ (by omega) (by omega)).trans h.rw, (f _ (by omega) (by omega)).trans h.df, hl, ?_, h.len, fun i h1 h2 => (h.rd i h1 h2).but hb (fun b hb e => by have := hb.1; omega), h.blw.trans (hb.toBelow (by omega) (fun k hk => by omega)), fun rest hs => ?_, by have := h.few; simp; omega⟩
  · obtain ⟨h1, h2⟩ := h.own
    refine ⟨h1, h2.imp id ?_⟩
    rintro ⟨g, cap, cur, hv, hg, hh, r⟩
    exact ⟨g, cap, cur, hv, hg, (hb.block g ((Array.getElem?_eq_some_iff.1 hh).1) (by omega)).trans hh, r⟩
  · rw [h.eq (x :: rest) (by rw [hs]; simp)]
    simp only [Wd.rows, hp]
    rw [List.length_append, List.length_singleton]
    cases Wd.rows rest (pre.length + 1 + 1) <;> rfl
/-- A line of words: W2 is the world in which its row is laid; W3 behind the append. -/
theorem LnSt.more {N : Nat} {w : World} {s : ByteArray} {rec rec' : Loop} {pre : List (List UInt8)} {acc : List (List Wrd)} {v : Value} {us : List Value} {W W2 W3 W' : World} (h : LnSt N w s rec pre acc v us W) {x : List UInt8} {ws : List Wrd} (hp : Wd.line (pre.length + 1) x 0 = .ok ws) (hne : ws ≠ [])
    {u v' : Value} (hw : RdsW (fun b => W.heap.size ≤ b) W2 u ws) (hb2 : But (fun k => k = N + 4 ∨ k = N + 10) W W2) (hg : W2.grownBy W3 v.ownBlock) (hv' : ∀ b, v'.ownBlock = some b → v.ownBlock = some b ∨ W2.heap.size ≤ b)
    (ho : W3.ownsRow (N + 11) 116 1 v' (us.length + 1) (us ++ [u])) (hb3 : But (fun k => k = N + 5 ∨ k = N + 10) W3 W')
    (hr : W'.heap[N + 5]? = some (.cells #[v'] 110 (0, 0))) (hn : W2.heap[N + 4]? = some (.cells #[.int .i64 ((pre.length : Int) + 1)] 3 (0, 0))) (hl : W'.heap[N + 10]? = some (.loop rec')) : LnSt N w s rec' (pre ++ [x]) (acc ++ [ws]) v' (us ++ [u]) W' := by
  have hsz := h.size
  have hvo : ∀ b, v.ownBlock = some b → N + 11 ≤ b ∧ b < W.heap.size := fun b e => by
    rcases h.own.2 with ⟨h1, _⟩ | ⟨g, cap, cur, hv, hg, hh, _⟩
    · rw [h1] at e; cases e
    · rw [hv] at e; injection e with e; subst e; exact ⟨hg, (Array.getElem?_eq_some_iff.1 hh).1⟩
  have hbut : But (fun k => v.ownBlock = some k) W2 W3 := ⟨hg.os, hg.tape, hg.output, hg.size, fun k hk hn => hg.block k hk (fun e => hn e.symm)⟩
  have s2 := hb2.size
  have s3 := hg.size
  have s4 := hb3.size
  have f : ∀ k, k < N + 11 → ¬ (k = N + 4 ∨ k = N + 10 ∨ k = N + 5) → W'.heap[k]? = W.heap[k]? := fun k h1 h2 => by
    rw [hb3.block k (by omega) (by omega), hbut.block k (by omega) (fun e => by have := (hvo k e).1; omega), hb2.block k (by omega) (by omega)]
  have hn' : W'.heap[N + 4]? = _ := (hb3.block (N + 4) (by omega) (by omega)).trans ((hbut.block (N + 4) (by omega) (fun e => by have := (hvo _ e).1; omega)).trans hn)
  have hokA : ∀ b, N + 11 ≤ b ∧ v.ownBlock ≠ some b → b < W.heap.size → N + 11 ≤ b ∧ v'.ownBlock ≠ some b := fun b hb hlt => ⟨hb.1, fun e => by rcases hv' b e with h1 | h1; exact hb.2 h1; omega⟩
  refine ⟨(f _ (by omega) (by omega)).trans h.z0, (f _ (by omega) (by omega)).trans h.z1, (f _ (by omega) (by omega)).trans h.z2, (f _ (by omega) (by omega)).trans h.z3, by rw [hn']; simp, hr, (f _ (by omega) (by omega)).trans h.df, hl, ?_, by simp [h.len], ?_, ?_, fun rest hs => ?_, by have := h.few; simp; omega⟩
  · obtain ⟨h1, h2⟩ := ho
    rw [List.length_append, List.length_singleton]
    refine ⟨h1, h2.imp id ?_⟩
    rintro ⟨g, cap, cur, hv, hg, hh, r⟩
    exact ⟨g, cap, cur, hv, hg, (hb3.block g ((Array.getElem?_eq_some_iff.1 hh).1) (by omega)).trans hh, r⟩
  · intro i h1 h2
    by_cases hi : i < us.length
    · have e1 : (us ++ [u])[i] = us[i] := List.getElem_append_left hi
      have e2 : (acc ++ [ws])[i] = acc[i]'(by have := h.len; omega) := List.getElem_append_left _
      rw [e1, e2]
      have r0 := h.rd i hi (by have := h.len; omega)
      have r1 := r0.mono (ok' := fun b => (N + 11 ≤ b ∧ v.ownBlock ≠ some b) ∧ b < W.heap.size) (fun b hlt hb => ⟨hb, hlt⟩)
      have r2 := r1.but hb2 (fun b hb e => by have := hb.1.1; omega)
      have r3 := r2.but hbut (fun b hb e => hb.1.2 e)
      have r4 := r3.but hb3 (fun b hb e => by have := hb.1.1; omega)
      exact r4.mono (fun b _ hb => hokA b hb.1 hb.2)
    · have hi2 : i = us.length := by simp at h1; omega
      subst hi2
      have e1 : (us ++ [u])[us.length] = u := by simp
      have e2 : (acc ++ [ws])[us.length] = ws := by simp [h.len]
      rw [e1, e2]
      have r1 := hw.mono (ok' := fun b => W.heap.size ≤ b ∧ b < W2.heap.size) (fun b hlt hb => ⟨hb, hlt⟩)
      have r3 := r1.but hbut (fun b hb e => by have := (hvo b e).2; omega)
      have r4 := r3.but hb3 (fun b hb e => by omega)
      refine r4.mono (fun b _ hb => ⟨by omega, fun e => ?_⟩)
      rcases hv' b e with h1 | h1
      · have := (hvo b h1).2; omega
      · omega
  · exact ((h.blw.trans (hb2.toBelow (by omega) (fun k hk => by omega))).trans (hbut.toBelow (by omega) (fun k hk => by have := (hvo k hk).1; omega))).trans (hb3.toBelow (by omega) (fun k hk => by omega))
  · rw [h.eq (x :: rest) (by rw [hs]; simp)]
    simp only [Wd.rows, hp]
    rw [List.length_append, List.length_singleton]
    have he : ws.isEmpty = false := by cases ws with | nil => exact absurd rfl hne | cons a l => rfl
    rw [he]
    cases Wd.rows rest (pre.length + 1 + 1) <;> simp [Except.map]
/-- All lines have come. -/
theorem LnSt.all {N : Nat} {w : World} {s : ByteArray} {rec : Loop} {acc : List (List Wrd)} {v : Value} {us : List Value} {W : World} (h : LnSt N w s rec (Wd.split s.data.toList) acc v us W) : Wd.lines s.data.toList = .ok acc := by
  rw [h.eq [] (by simp)]
  simp [Wd.rows, Except.map]
theorem LnSt.rds {N : Nat} {w : World} {s : ByteArray} {rec : Loop} {pre : List (List UInt8)} {acc : List (List Wrd)} {v : Value} {us : List Value} {W : World} (h : LnSt N w s rec pre acc v us W) : RdsLn (fun b => N + 11 ≤ b) W v acc := by
  refine ⟨us, h.len, ownsRow_rds h.own, fun a n c e hn => ?_, fun i h1 h2 => (h.rd i h1 h2).mono fun b _ hb => hb.1⟩
  rcases h.own.2 with ⟨h1, h2⟩ | ⟨g, cap, cur, hv, hg, hh, _⟩
  · rw [h1] at e; cases e
  · rw [hv] at e; injection e with e _ _; injection e with e; subst e; exact hg
end Go.Proofs.YtlamhpiiikcpiaaGreatDoor
