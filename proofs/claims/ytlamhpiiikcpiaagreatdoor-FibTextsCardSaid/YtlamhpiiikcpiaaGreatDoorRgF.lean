/-
  Walks over the reference of words: line.
-/
import Derived.Test.YtlamhpiiikcpiaaGreatDoorRgE
import Derived.OwnWalk
import Derived.Deep.AppendLies
namespace Go.Proofs.YtlamhpiiikcpiaaGreatDoor
open Go.RowKit
set_option linter.unusedVariables false
set_option linter.unusedSimpArgs false
/-- What the reference's line tells. -/
def RLinePost (num : Nat) (s : ByteArray) (w : World) (e : Ending) (w' : World) : Prop :=
  (match Wd.line num s.data.toList 0 with
  | .ok ws => ∃ ad c, e = .returned (.tuple #[.slice ad ws.length c, .int .i64 (-1)]) ∧ w'.ownsRow w.heap.size 167 3 (.slice ad ws.length c) ws.length (cellsW ws)
  | .error p => e = .returned (.tuple #[.slice none 0 0, .int .i64 p])) ∧ Below w.heap.size w w'
/-- What the reader has come to. -/
structure RLn (num : Nat) (s : ByteArray) (w : World) (x : Nat) (pre : List Wrd) (ad : Option Addr) (c : Nat) (wr : World) : Prop where
  own : wr.ownsRow w.heap.size 167 3 (.slice ad pre.length c) pre.length (cellsW pre)
  few : pre.length ≤ x
  eq : Wd.line num s.data.toList 0 = (Wd.line num (s.data.toList.drop x) x).map (pre ++ ·)
  bel : Below w.heap.size w wr
theorem RLn.done {num : Nat} {s : ByteArray} {w : World} {x : Nat} {pre : List Wrd} {ad : Option Addr} {c : Nat} {wr : World} (h : RLn num s w x pre ad c wr) (hl : Wd.line num (s.data.toList.drop x) x = .ok []) : RLinePost num s w (.returned (.tuple #[.slice ad pre.length c, .int .i64 (-1)])) wr := by
  unfold RLinePost
  rw [h.eq, hl]
  simp only [Except.map, List.append_nil]
  exact ⟨⟨ad, c, rfl, h.own⟩, h.bel⟩
theorem RLn.bad {num : Nat} {s : ByteArray} {w : World} {x : Nat} {pre : List Wrd} {ad : Option Addr} {c : Nat} {wr : World} (h : RLn num s w x pre ad c wr) (hl : Wd.line num (s.data.toList.drop x) x = .error x) : RLinePost num s w (.returned (.tuple #[.slice none 0 0, .int .i64 x])) wr := by
  unfold RLinePost
  rw [h.eq, hl]
  simp only [Except.map]
  exact ⟨by first | rfl | trivial, h.bel⟩
theorem RLn.blank {num : Nat} {s : ByteArray} {w : World} {x : Nat} {pre : List Wrd} {ad : Option Addr} {c : Nat} {wr : World} (h : RLn num s w x pre ad c wr) (hx : x < s.size) (hc : s[x] = 32 ∨ s[x] = 9) : RLn num s w (x + 1) pre ad c wr := by
  have hd : s.data.toList.drop x = s[x] :: s.data.toList.drop (x + 1) := by
    rw [List.drop_eq_getElem_cons (by simpa using hx)]; rfl
  exact ⟨h.own, by have := h.few; omega, by rw [h.eq, hd, Wd.line_blank _ _ _ _ hc], h.bel⟩
theorem RLn.word {num : Nat} {s : ByteArray} {w : World} {x : Nat} {pre : List Wrd} {ad : Option Addr} {c : Nat} {wr W1 : World} (h : RLn num s w x pre ad c wr) {n : Nat} (hn : Wd.size (s.data.toList.drop x) = n) (hx : x < s.size) (h35 : ¬ s[x] = 35) (hb : ¬ (s[x] = 32 ∨ s[x] = 9)) (hn0 : n ≠ 0)
    (hg : (wr.alloc (.cells #[.string (s.extract x (x + n)), .int .i64 num, .int .i64 ((x : Int) + 1)] 167)).grownBy W1 (Value.slice ad pre.length c).ownBlock) {v' : Value}
    (ho : W1.ownsRow w.heap.size 167 3 v' (pre.length + 1) (cellsW pre ++ [.string (s.extract x (x + n)), .int .i64 num, .int .i64 ((x : Int) + 1)])) :
    ∃ ad' c', v' = .slice ad' (pre.length + 1) c' ∧ RLn num s w (x + n) (pre ++ [⟨s.extract x (x + n), num, x + 1⟩]) ad' c' W1 := by
  obtain ⟨ad', c', rfl, _⟩ := ownsRow_slice ho
  have hd : s.data.toList.drop x = s[x] :: s.data.toList.drop (x + 1) := by
    rw [List.drop_eq_getElem_cons (by simpa using hx)]; rfl
  refine ⟨ad', c', rfl, ?_, ?_, ?_, own_step (h.bel.alloc h.bel.size _) (h.own.alloc _) hg⟩
  · rw [List.length_append, List.length_singleton, cellsW_append, cellsW_one]; exact ho
  · rw [List.length_append, List.length_singleton]; have := h.few; omega
  · have hw := Wd.line_word num x s[x] (s.data.toList.drop (x + 1)) h35 hb (by rw [← hd, hn]; exact hn0)
    rw [← hd, hn, List.drop_drop] at hw
    rw [h.eq, hw]
    have hmk : Wd.mkB ((s.data.toList.drop x).take n) = s.extract x (x + n) := by
      rw [← Wd.mkB_of (s.extract x (x + n)), Lib.extract_data, show x + n - x = n by omega]
    rw [hmk]
    cases Wd.line num (s.data.toList.drop (x + n)) (x + n) <;> simp [Except.map]
set_option maxHeartbeats 6400000 in
set_option maxRecDepth 20000 in
theorem rline_any (num : Nat) (s : ByteArray) (w : World) (hs : s.size ≤ 1048576) :
    Calls Tryz.prog 92 #[.string s, .int .i64 num] w (RLinePost num s w) := by
  have H0 : Hid (RLn num s w 0 [] none 0 w) := ⟨World.ownsRow_nil _ _ _ _, Nat.le_refl _, by simp [Except.map]; cases Wd.line num s.data.toList 0 <;> rfl, Below.refl _ _⟩
  obtain ⟨i0, hi, hz0, hz1, hz2⟩ := info_parts infoW
  go_enter Tryz.func92, Tryz.ntmps92
  go_wp2_with fail
  go_loopw [6, 7] (fun l i wr => ∃ (x : Nat) (pre : List Wrd) (ad : Option Addr) (c m : Nat), x ≤ s.size ∧ i = .int .i64 x ∧ l = .slice ad m c ∧ Hid (m = pre.length) ∧ m ≤ x ∧ Hid (RLn num s w x pre ad c wr)) (fun _ i wr => s.size - (intOf i).toNat)
  case atStart => exact ⟨0, [], none, 0, 0, Nat.zero_le _, rfl, rfl, rfl, Nat.le_refl _, H0⟩
  case round =>
    obtain ⟨x, pre, ad, c, m, hle, rfl, rfl, hml, hmx, hr⟩ := hrel
    have hx0 : (0 : Int) ≤ (x : Int) := by omega
    by_cases hx : x < s.size
    · have hd : s.data.toList.drop x = s[x] :: s.data.toList.drop (x + 1) := by
        rw [List.drop_eq_getElem_cons (by simpa using hx)]; rfl
      have HD := Lib.hid hd
      have hxz : (x : Int) < (s.size : Int) := by omega
      clear hd
      by_cases h35 : s[x] = 35
      · have HE : Hid (Wd.line num (s.data.toList.drop x) x = .ok []) := by show _ = _; rw [HD.out, h35, Wd.line_hash]
        have t1 : (((s[x].toNat : Nat) : Int) == 35) = true := byte_test _ 35 _ (by simp [h35])
        have t2 : (((s[x].toNat : Nat) : Int) != 35) = false := by rw [bne, t1]; rfl
        clear h35
        go_wp2_with fail
        go_ret2
        have := hr.out.done HE.out
        rw [← hml.out] at this
        exact this
      · have t1 : (((s[x].toNat : Nat) : Int) == 35) = false := byte_test _ 35 _ (by simp [h35])
        have t2 : (((s[x].toNat : Nat) : Int) != 35) = true := by rw [bne, t1]; rfl
        have H35 := Lib.hid h35
        clear h35
        by_cases hb : s[x] = 32 ∨ s[x] = 9
        · have HR2 := Lib.hid ((hr.out).blank hx hb)
          have hor : (((s[x].toNat : Nat) : Int) == 32) = true ∨ ((((s[x].toNat : Nat) : Int) == 32) = false ∧ (((s[x].toNat : Nat) : Int) == 9) = true) := by
            by_cases h32 : s[x] = 32
            · exact .inl (byte_test _ 32 _ (by simp [h32]))
            · exact .inr ⟨byte_test _ 32 _ (by simp [h32]), byte_test _ 9 _ (by simpa [h32] using hb)⟩
          clear hb
          rcases hor with h32 | ⟨h32, h9⟩
          all_goals
            go_wp2_with fail
            go_roundw
            case rel => exact ⟨x + 1, pre, ad, c, m, by omega, by go_num, rfl, hml, by omega, HR2⟩
            case measure => simp [intOf]; omega
        · obtain ⟨n, hn⟩ : ∃ n, Wd.size (s.data.toList.drop x) = n := ⟨_, rfl⟩
          have HZ : Hid (∀ W, Calls Tryz.prog 123 #[.string s, .int .i64 x] W fun e w' => e = .returned (.int .i64 n) ∧ W = w') := fun W =>
            (rnext_any x s W hx hs).mono (by rintro e w' ⟨rfl, rfl⟩; rw [hn]; exact ⟨rfl, rfl⟩)
          have h32 : (((s[x].toNat : Nat) : Int) == 32) = false := byte_test _ 32 _ (by simp; exact fun h => hb (.inl h))
          have h9 : (((s[x].toNat : Nat) : Int) == 9) = false := byte_test _ 9 _ (by simp; exact fun h => hb (.inr h))
          have HN := Lib.hid hn
          have HB := Lib.hid hb
          have hns : n ≤ s.size - x := by
            have := Wd.size_le (s.data.toList.drop x) (by rw [HD.out]; simp)
            rw [hn, List.length_drop, ← Lib.size_eq] at this
            exact this
          clear hn hb
          by_cases hn0 : n = 0
          · subst hn0
            have HE : Hid (Wd.line num (s.data.toList.drop x) x = .error x) := by
              show _ = _
              rw [HD.out, Wd.line_bad _ _ _ _ H35.out HB.out (by rw [← HD.out]; exact HN.out)]
            go_wp2_with ((with_reducible refine (HZ.out _).mono ?_); rintro e w' ⟨rfl, rfl⟩)
            go_ret2
            exact hr.out.bad HE.out
          · have hnz : ((n : Int) == 0) = false := by simpa using hn0
            have hi3 : (0 : Int) ≤ (x : Int) + (n : Int) := by omega
            have hi4 : ((x : Int) + (n : Int)).toNat = x + n := by omega
            have hi5 : (x : Int) + (n : Int) ≤ (s.size : Int) := by omega
            have hi6 : (x : Int) ≤ (x : Int) + (n : Int) := by omega
            have HOw : Hid (wr.ownsRow w.heap.size 167 3 (.slice ad m c) m (cellsW pre)) := by rw [hml.out]; exact hr.out.own
            have HN0 := Lib.hid hn0
            have HBs : Hid (w.heap.size ≤ wr.heap.size) := hr.out.bel.size
            clear hn0
            go_wp2_with (first | ((with_reducible refine (HZ.out _).mono ?_); rintro e w' ⟨rfl, rfl⟩) | (at_builtin; refine wpList_append_own _ rfl (.tmp 37) (.tmp 48) 116 rfl w.heap.size 167 i0 _ 3 32 Tryz.underlying116 hi hz0 hz1 hz2 rfl (by omega) (.slice ad m c) m (cellsW pre) (by rfl) (HOw.out.alloc _) ⟨wr.heap.size, 0, none⟩ 1 1 [.string (s.extract x (x + n)), .int .i64 num, .int .i64 ((x : Int) + 1)] (by rfl) (by rfl) (World.news_of_block (cs := #[.string (s.extract x (x + n)), .int .i64 num, .int .i64 ((x : Int) + 1)]) (t := 167) (fr := (0, 0)) (heap_alloc_new wr _)) (by simp [Value.oneCell']) (by unfold maxLen; omega) (by omega) (by have := HBs.out; simp; omega) ?_; intro v' w1 hown1 hgrow _; have hW := hr.out.word HN.out hx H35.out HB.out HN0.out (by rw [← hml.out]; exact hgrow) (by rw [← hml.out]; exact hown1); obtain ⟨ad', c', rfl, hW2⟩ := hW; have HW := Lib.hid hW2; clear hown1 hgrow hW2))
            go_roundw
            case rel => exact ⟨x + n, _, ad', c', m + 1, by omega, by go_num, by rw [hml.out], by show _ = _; rw [hml.out]; simp, by have := HN0.out; omega, HW⟩
            case measure => simp [intOf]; have := HN0.out; omega
    · have hxe : x = s.size := by omega
      have HE : Hid (Wd.line num (s.data.toList.drop x) x = .ok []) := by show _ = _; rw [hxe, List.drop_of_length_le (by rw [Lib.size_eq]; omega), Wd.line_nil]
      have hxz : decide ((x : Int) < (s.size : Int)) = false := by simp; omega
      clear hxe
      go_wp2_with fail
      go_ret2
      have := hr.out.done HE.out
      rw [← hml.out] at this
      exact this
end Go.Proofs.YtlamhpiiikcpiaaGreatDoor
/-
  Walks over the reference of words: Lines.
-/
namespace Go.Proofs.YtlamhpiiikcpiaaGreatDoor
open Go.RowKit
set_option linter.unusedVariables false
set_option linter.unusedSimpArgs false
/-- The reference between two lines. -/
structure RLs (w : World) (s : ByteArray) (pre : List (List UInt8)) (acc : List (List Wrd)) (v : Value) (us : List Value) (W : World) : Prop where
  own : W.ownsRow w.heap.size 116 1 v us.length us
  len : us.length = acc.length
  rd : ∀ i (h : i < us.length) (h' : i < acc.length), RdsW (fun b => w.heap.size ≤ b ∧ v.ownBlock ≠ some b) W us[i] acc[i]
  bel : Below w.heap.size w W
  eq : ∀ rest, Wd.split s.data.toList = pre ++ rest → Wd.lines s.data.toList = (Wd.rows rest (pre.length + 1)).map (acc ++ ·)
  few : acc.length ≤ pre.length
theorem RLs.same {w : World} {s : ByteArray} {pre : List (List UInt8)} {acc : List (List Wrd)} {v : Value} {us : List Value} {W W' : World} (h : RLs w s pre acc v us W) {x : List UInt8} (hp : Wd.line (pre.length + 1) x 0 = .ok []) (hb : Below W.heap.size W W') : RLs w s (pre ++ [x]) acc v us W' := by
  refine ⟨ownsRow_below h.own hb, h.len, fun i h1 h2 => (h.rd i h1 h2).below hb, h.bel.trans (hb.mono h.bel.size), fun rest hs => ?_, by have := h.few; simp; omega⟩
  rw [h.eq (x :: rest) (by rw [hs]; simp)]
  simp only [Wd.rows, hp]
  rw [List.length_append, List.length_singleton]
  cases Wd.rows rest (pre.length + 1 + 1) <;> rfl
theorem RLs.more {w : World} {s : ByteArray} {pre : List (List UInt8)} {acc : List (List Wrd)} {v : Value} {us : List Value} {W W2 W3 : World} (h : RLs w s pre acc v us W) {x : List UInt8} {ws : List Wrd} (hp : Wd.line (pre.length + 1) x 0 = .ok ws) (hne : ws ≠ [])
    {u v' : Value} (hw : RdsW (fun b => W.heap.size ≤ b) W2 u ws) (hb2 : Below W.heap.size W W2) (hg : W2.grownBy W3 v.ownBlock) (hv' : ∀ b, v'.ownBlock = some b → v.ownBlock = some b ∨ W2.heap.size ≤ b)
    (ho : W3.ownsRow w.heap.size 116 1 v' (us.length + 1) (us ++ [u])) : RLs w s (pre ++ [x]) (acc ++ [ws]) v' (us ++ [u]) W3 := by
  have hvo : ∀ b, v.ownBlock = some b → w.heap.size ≤ b ∧ b < W.heap.size := fun b e => by
    rcases h.own.2 with ⟨h1, _⟩ | ⟨g, cap, cur, hv, hg, hh, _⟩
    · rw [h1] at e; cases e
    · rw [hv] at e; injection e with e; subst e; exact ⟨hg, (Array.getElem?_eq_some_iff.1 hh).1⟩
  have hbut : But (fun k => v.ownBlock = some k) W2 W3 := ⟨hg.os, hg.tape, hg.output, hg.size, fun k hk hn => hg.block k hk (fun e => hn e.symm)⟩
  have s2 := hb2.size
  have hokA : ∀ b, w.heap.size ≤ b ∧ v.ownBlock ≠ some b → b < W.heap.size → w.heap.size ≤ b ∧ v'.ownBlock ≠ some b := fun b hb hlt => ⟨hb.1, fun e => by rcases hv' b e with h1 | h1; exact hb.2 h1; omega⟩
  refine ⟨by rw [List.length_append, List.length_singleton]; exact ho, by simp [h.len], ?_, own_step (h.bel.trans (hb2.mono h.bel.size)) (ownsRow_below h.own hb2) hg, fun rest hs => ?_, by have := h.few; simp; omega⟩
  · intro i h1 h2
    by_cases hi : i < us.length
    · have e1 : (us ++ [u])[i] = us[i] := List.getElem_append_left hi
      have e2 : (acc ++ [ws])[i] = acc[i]'(by have := h.len; omega) := List.getElem_append_left _
      rw [e1, e2]
      have r0 := h.rd i hi (by have := h.len; omega)
      have r1 := r0.mono (ok' := fun b => (w.heap.size ≤ b ∧ v.ownBlock ≠ some b) ∧ b < W.heap.size) (fun b hlt hb => ⟨hb, hlt⟩)
      have r2 := r1.below hb2
      have r3 := r2.but hbut (fun b hb e => hb.1.2 e)
      exact r3.mono (fun b _ hb => hokA b hb.1 hb.2)
    · have hi2 : i = us.length := by simp at h1; omega
      subst hi2
      have e1 : (us ++ [u])[us.length] = u := by simp
      have e2 : (acc ++ [ws])[us.length] = ws := by simp [h.len]
      rw [e1, e2]
      have r1 := hw.mono (ok' := fun b => W.heap.size ≤ b ∧ b < W2.heap.size) (fun b hlt hb => ⟨hb, hlt⟩)
      have r3 := r1.but hbut (fun b hb e => by have := (hvo b e).2; omega)
      refine r3.mono (fun b _ hb => ⟨by have := h.bel.size; omega, fun e => ?_⟩)
      rcases hv' b e with h1 | h1
      · have := (hvo b h1).2; omega
      · omega
  · rw [h.eq (x :: rest) (by rw [hs]; simp)]
    simp only [Wd.rows, hp]
    rw [List.length_append, List.length_singleton]
    have he : ws.isEmpty = false := by cases ws with | nil => exact absurd rfl hne | cons a l => rfl
    rw [he]
    cases Wd.rows rest (pre.length + 1 + 1) <;> simp [Except.map]
theorem RLs.rds {w : World} {s : ByteArray} {pre : List (List UInt8)} {acc : List (List Wrd)} {v : Value} {us : List Value} {W : World} (h : RLs w s pre acc v us W) : RdsLn (fun b => w.heap.size ≤ b) W v acc := by
  refine ⟨us, h.len, ownsRow_rds h.own, fun a n c e hn => ?_, fun i h1 h2 => (h.rd i h1 h2).mono fun b _ hb => hb.1⟩
  rcases h.own.2 with ⟨h1, h2⟩ | ⟨g, cap, cur, hv, hg, hh, _⟩
  · rw [h1] at e; cases e
  · rw [hv] at e; injection e with e _ _; injection e with e; subst e; exact hg
/-- The place in the text: f is where the line begins, i where the reader is. -/
structure RPos (L : List UInt8) (f i : Nat) (pre rest : List (List UInt8)) : Prop where
  sp : Wd.split L = pre ++ rest
  le : i ≤ L.length → f ≤ i ∧ rest = Wd.split (L.drop f) ∧ (10 : UInt8) ∉ (L.drop f).take (i - f)
  gt : L.length < i → rest = []
theorem RPos.byte {L : List UInt8} {f i : Nat} {pre rest : List (List UInt8)} (h : RPos L f i pre rest) (hi : i < L.length) (hc : ¬ L[i] = 10) : RPos L f (i + 1) pre rest := by
  obtain ⟨h1, h2, h3⟩ := h.le (by omega)
  refine ⟨h.sp, fun hl => ⟨by omega, h2, ?_⟩, fun hl => by omega⟩
  rw [show i + 1 - f = (i - f) + 1 by omega, List.take_succ_eq_append_getElem (by rw [List.length_drop]; omega)]
  intro hm
  rcases List.mem_append.1 hm with hm | hm
  · exact h3 hm
  · have : (L.drop f)[i - f]'(by rw [List.length_drop]; omega) = L[i] := by rw [List.getElem_drop]; congr 1; omega
    rw [List.mem_singleton, this] at hm
    exact hc hm.symm
/-- A line ends here. -/
theorem RPos.line {L : List UInt8} {f i : Nat} {pre rest : List (List UInt8)} (h : RPos L f i pre rest) (hi : i ≤ L.length) (hc : ∀ h : i < L.length, L[i] = 10) :
    ∃ rest', rest = (L.drop f).take (i - f) :: rest' ∧ RPos L (i + 1) (i + 1) (pre ++ [(L.drop f).take (i - f)]) rest' := by
  obtain ⟨h1, h2, h3⟩ := h.le hi
  by_cases hl : i < L.length
  · have hd : L.drop f = (L.drop f).take (i - f) ++ 10 :: L.drop (i + 1) := by
      have e1 : L.drop i = 10 :: L.drop (i + 1) := by rw [List.drop_eq_getElem_cons hl, hc hl]
      rw [← e1]
      have : L.drop i = (L.drop f).drop (i - f) := by rw [List.drop_drop]; congr 1; omega
      rw [this, List.take_append_drop]
    have hs : Wd.split (L.drop f) = (L.drop f).take (i - f) :: Wd.split (L.drop (i + 1)) := by
      have := Wd.split_some ((L.drop f).take (i - f)) (L.drop (i + 1)) h3
      rw [← hd] at this
      exact this
    refine ⟨Wd.split (L.drop (i + 1)), by rw [h2, hs], ?_, fun hl2 => ⟨Nat.le_refl _, rfl, by simp⟩, fun hl2 => by omega⟩
    rw [h.sp, h2, hs]; simp
  · have hie : i = L.length := by omega
    have ht : (L.drop f).take (i - f) = L.drop f := List.take_of_length_le (by rw [List.length_drop]; omega)
    rw [ht] at h3 ⊢
    have hs : Wd.split (L.drop f) = [L.drop f] := Wd.split_none _ h3
    refine ⟨[], by rw [h2, hs], ?_, fun hl2 => by omega, fun _ => rfl⟩
    rw [h.sp, h2, hs]; simp
theorem line_err (num : Nat) : ∀ (f : Nat) (l : List UInt8) (at_ p : Nat), Wd.lineF num f l at_ = .error p → p ≤ at_ + l.length := by
  intro f
  induction f with
  | zero => intro l at_ p h; simp [Wd.lineF] at h
  | succ f ih =>
    intro l at_ p h
    cases l with
    | nil => simp [Wd.lineF] at h
    | cons c t =>
      simp only [Wd.lineF] at h
      split at h
      · cases h
      · split at h
        · have := ih _ _ _ h
          simp; omega
        · split at h
          · injection h with h
            omega
          · cases hr : Wd.lineF num f ((c :: t).drop (Wd.size (c :: t))) (at_ + Wd.size (c :: t)) with
            | ok ws => rw [hr] at h; cases h
            | error q =>
              rw [hr] at h
              injection h with h
              have h1 := ih _ _ _ hr
              have h2 := Wd.size_le (c :: t) (by simp)
              rw [List.length_drop] at h1
              omega
set_option maxHeartbeats 800000 in
set_option maxRecDepth 20000 in
theorem rlines_long (s : ByteArray) (w : World) (hs : (1048576 : Int) < s.size) :
    Calls Tryz.prog 56 #[.string s] w fun e w' => e = .returned (.tuple #[.slice none 0 0, .int .i64 0, .int .i64 0, .int .i64 2]) ∧ w = w' := by
  go_enter Tryz.func56, Tryz.ntmps56
  go_wp2_with fail
  refine bodyPost_ret (v := .tuple #[.slice none 0 0, .int .i64 0, .int .i64 0, .int .i64 2]) (by simp [results, go_sem]) rfl ?_
  exact ⟨rfl, rfl⟩
set_option maxHeartbeats 6400000 in
set_option maxRecDepth 20000 in
theorem rlines_any (s : ByteArray) (w : World) (hs : s.size ≤ 1048576) : Calls Tryz.prog 56 #[.string s] w (LinesPost s w) := by
  have hs1 : decide ((1048576 : Int) < (s.size : Int)) = false := by simp; omega
  have hlen : s.data.toList.length = s.size := (Lib.size_eq s).symm
  obtain ⟨i0, hi, hz0, hz1, hz2⟩ := info_parts infoWs
  have HLen := Lib.hid hlen
  clear hlen
  go_enter Tryz.func56, Tryz.ntmps56
  go_wp2_with fail
  go_loopw [6, 7, 8, 9] (fun o fr nb iv wr => ∃ (f i k m : Nat) (pre rest : List (List UInt8)) (acc : List (List Wrd)) (ad : Option Addr) (c : Nat) (us : List Value), i ≤ s.size + 1 ∧ f ≤ s.size + 1 ∧ iv = .int .i64 i ∧ fr = .int .i64 f ∧ nb = .int .i64 ((k : Int) + 1) ∧ k ≤ f ∧ o = .slice ad m c ∧ m ≤ k ∧ Hid (k = pre.length) ∧ Hid (m = us.length) ∧ Hid (RPos s.data.toList f i pre rest) ∧ Hid (RLs w s pre acc (.slice ad m c) us wr)) (fun _ _ _ iv wr => s.size + 1 - (intOf iv).toNat)
  case atStart =>
    refine ⟨0, 0, 0, 0, [], Wd.split s.data.toList, [], none, 0, [], by omega, by omega, rfl, rfl, rfl, Nat.le_refl _, rfl, Nat.le_refl _, rfl, rfl, ⟨rfl, fun _ => ⟨Nat.le_refl _, rfl, by simp⟩, fun h => by omega⟩, ?_⟩
    refine ⟨World.ownsRow_nil _ _ _ _, rfl, fun i h => absurd h (Nat.not_lt_zero _), Below.refl _ _, fun rest h => ?_, Nat.le_refl _⟩
    rw [List.nil_append] at h
    unfold Wd.lines
    rw [h]
    cases Wd.rows rest 1 <;> simp [Except.map, h]
  case round =>
    obtain ⟨f, i, k, m, pre, rest, acc, ad, c, us, hi1, hf1, rfl, rfl, rfl, hkf, rfl, hmk, hk, hm, hpos, hst⟩ := hrel
    by_cases hil : i ≤ s.size
    · have hiz : (i : Int) ≤ (s.size : Int) := by omega
      have hfi : f ≤ i := (hpos.out.le (by rw [HLen.out]; exact hil)).1
      by_cases hc : ∃ h : i < s.size, ¬ s[i] = 10
      · obtain ⟨hlt, hne⟩ := hc
        have hlz : (i : Int) < (s.size : Int) := by omega
        have t1 : (((s[i].toNat : Nat) : Int) == 10) = false := byte_test _ 10 _ (by simp [hne])
        have t2 : (((s[i].toNat : Nat) : Int) != 10) = true := by rw [bne, t1]; rfl
        have HP : Hid (RPos s.data.toList f (i + 1) pre rest) := hpos.out.byte (by rw [HLen.out]; exact hlt) hne
        clear hne
        go_wp2_with fail
        go_roundw
        case rel => exact ⟨f, i + 1, k, m, pre, rest, acc, ad, c, us, by omega, hf1, by go_num, rfl, rfl, hkf, rfl, hmk, hk, hm, HP, hst⟩
        case measure => simp [intOf]; omega
      · have hall : ∀ h : i < s.data.toList.length, s.data.toList[i] = 10 := fun h => by
          have h2 : i < s.size := by have := HLen.out; omega
          exact Classical.byContradiction fun hn => hc ⟨h2, hn⟩
        obtain ⟨rest', hr, hp2⟩ := hpos.out.line (by rw [HLen.out]; exact hil) hall
        obtain ⟨x, hx⟩ : ∃ x, (s.data.toList.drop f).take (i - f) = x := ⟨_, rfl⟩
        rw [hx] at hr hp2
        have hex : (s.extract f i).data.toList = x := by rw [Lib.extract_data, hx]
        have hxs : (s.extract f i).size ≤ 1048576 := by rw [ByteArray.size_extract]; omega
        have hline : Hid (∀ W, Calls Tryz.prog 92 #[.string (s.extract f i), .int .i64 ((k : Int) + 1)] W (RLinePost (k + 1) (s.extract f i) W)) := fun W => by
          have := rline_any (k + 1) (s.extract f i) W hxs
          rwa [show ((k + 1 : Nat) : Int) = (k : Int) + 1 by omega] at this
        have HR := Lib.hid hr
        have HP2 := Lib.hid hp2
        have HX := Lib.hid hex
        have hx0 := hx
        have hnl : i < s.size → (((s.data.toList[i]?).getD 0).toNat : Int) = 10 := fun h => by
          rw [List.getElem?_eq_getElem (by rw [HLen.out]; exact h), hall (by rw [HLen.out]; exact h)]; rfl
        have htest : Hid ((i < s.size → ∃ h : i < s.size, (((s[i].toNat : Nat) : Int) == 10) = true ∧ (((s[i].toNat : Nat) : Int) != 10) = false)) := fun h => ⟨h, by
          have e : s[i] = 10 := hall (by rw [HLen.out]; exact h)
          rw [e]; exact ⟨rfl, rfl⟩⟩
        have hfz : (f : Int) ≤ (i : Int) := by omega
        have hf0 : (0 : Int) ≤ (f : Int) := by omega
        clear hc hall hr hp2 hx hex hnl
        have go : ∀ e w1, RLinePost (k + 1) (s.extract f i) wr e w1 → (∃ p : Nat, e = .returned (.tuple #[.slice none 0 0, .int .i64 p]) ∧ LinesPost s w (.returned (.tuple #[.slice none 0 0, .int .i64 ((k : Int) + 1), .int .i64 ((p : Int) + 1), .int .i64 30])) w1 ∧ p ≤ 1048576) ∨
            (∃ (ws : List Wrd) (aw : Option Addr) (cw : Nat), e = .returned (.tuple #[.slice aw ws.length cw, .int .i64 (-1)]) ∧ Wd.line (k + 1) x 0 = .ok ws ∧ RdsW (fun b => wr.heap.size ≤ b) w1 (.slice aw ws.length cw) ws ∧ Below wr.heap.size wr w1) := by
          intro e w1 h
          unfold RLinePost at h
          rw [HX.out] at h
          cases hl : Wd.line (k + 1) x 0 with
          | error p =>
            rw [hl] at h
            refine .inl ⟨p, h.1, ?_, ?_⟩
            · unfold LinesPost
              have : Wd.lines s.data.toList = .error (k + 1, p) := by
                rw [hst.out.eq rest hpos.out.sp, HR.out, ← hk.out]
                simp only [Wd.rows, hl]
                rfl
              rw [this]
              exact ⟨rfl, hst.out.bel.trans (h.2.mono hst.out.bel.size)⟩
            · have h1 := line_err (k + 1) _ _ _ _ hl
              have h2 : x.length ≤ s.size := by rw [← hx0, List.length_take, List.length_drop, HLen.out]; omega
              omega
          | ok ws =>
            rw [hl] at h
            obtain ⟨⟨aw, cw, he, ho⟩, hb⟩ := h
            exact .inr ⟨ws, aw, cw, he, rfl, ownsRow_rdsW ho, hb⟩
        have HGo := Lib.hid go
        clear go hx0
        have hcase : (i : Int) < (s.size : Int) ∧ (∃ h : i < s.size, (((s[i].toNat : Nat) : Int) == 10) = true ∧ (((s[i].toNat : Nat) : Int) != 10) = false) ∨ decide ((i : Int) < (s.size : Int)) = false ∧ ¬ i < s.size := by
          by_cases h : i < s.size
          · exact .inl ⟨by omega, htest.out h⟩
          · exact .inr ⟨by simp; omega, h⟩
        rcases hcase with ⟨hlz, hlt, ht1, ht2⟩ | ⟨hlz, hnl⟩
        all_goals
          go_wp2_with fail
          any_goals (first | refine (hline.out _).mono ?_ | (exfalso; simp only [decide_eq_false_iff_not] at hlz; omega))
          intro e w1 h1
          rcases HGo.out e w1 h1 with ⟨p, rfl, hpost, hp⟩ | ⟨ws, aw, cw, rfl, hl, hrd, hb1⟩
          · have HPo := Lib.hid hpost
            clear hpost h1
            have hp0 : (0 : Int) ≤ (p : Int) := by omega
            go_wp2_with fail
            refine bodyPost_ret (v := .tuple #[.slice none 0 0, .int .i64 ((k : Int) + 1), .int .i64 ((p : Int) + 1), .int .i64 30]) (by simp [results, go_sem]) rfl ?_
            exact HPo.out
          · have Hl := Lib.hid hl
            have HRd := Lib.hid hrd
            have HB1 := Lib.hid hb1
            clear h1 hl hrd hb1
            have hul : us.length ≤ 1048577 := by have := hst.out.len; have := hst.out.few; have := hk.out; have := hm.out; omega
            by_cases hne : ws = []
            · subst hne
              go_wp2_with fail
              go_roundw
              case rel =>
                refine ⟨i + 1, i + 1, k + 1, m, pre ++ [x], rest', acc, ad, c, us, by omega, by omega, by go_num, by go_num, by go_num, by omega, rfl, by omega, ?_, hm, HP2, ?_⟩
                · show _ = _; rw [hk.out]; simp
                · exact hst.out.same (by rw [← hk.out]; exact Hl.out) HB1.out
              case measure => simp [intOf]; omega
            · have hpos2 : (0 : Int) < (ws.length : Int) := by have := List.length_pos_iff.2 hne; omega
              have HNe := Lib.hid hne
              have HOw : Hid (w1.ownsRow w.heap.size 116 1 (.slice ad m c) m us) := by have h2 := ownsRow_below hst.out.own HB1.out; rwa [← hm.out] at h2
              have HBs : Hid (w.heap.size ≤ w1.heap.size) := Nat.le_trans hst.out.bel.size HB1.out.size
              clear hne
              go_wp2_with (at_builtin; refine wpList_append_lies _ rfl (.tmp 48) (.tmp 50) 110 rfl w.heap.size 116 i0 _ 1 24 Tryz.underlying110 hi hz0 hz1 hz2 rfl (by omega) (.slice ad m c) m us (by rfl) (HOw.out.alloc _) ⟨w1.heap.size, 0, none⟩ 1 1 [.slice aw ws.length cw] (by rfl) (by rfl) (World.news_of_block (cs := #[.slice aw ws.length cw]) (t := 116) (fr := (0, 0)) (heap_alloc_new w1 _)) (by simp [Value.oneCell']) (by omega) (by unfold maxLen; omega) (by omega) (by have := HBs.out; simp; omega) (w1.heap.size + 1) (by simp) ?_; intro gg cap w4 hown4 hgrow hat hlt4; have HO4 := Lib.hid hown4; have HG4 := Lib.hid hgrow; have HAt := Lib.hid hat; clear hown4 hgrow hat hlt4)
              go_roundw
              case rel =>
                refine ⟨i + 1, i + 1, k + 1, m + 1, pre ++ [x], rest', acc ++ [ws], some ⟨gg, 0, none⟩, cap, us ++ [.slice aw ws.length cw], by omega, by omega, by go_num, by go_num, by go_num, by omega, rfl, by omega, ?_, ?_, HP2, ?_⟩
                · show _ = _; rw [hk.out]; simp
                · show _ = _; rw [hm.out]; simp
                · refine hst.out.more (W := wr) (W2 := w1.alloc (.cells #[.slice aw ws.length cw] 116)) (by rw [← hk.out]; exact Hl.out) HNe.out (HRd.out.below ((Below.refl _ _).alloc (Nat.le_refl _) _)) (HB1.out.alloc HB1.out.size _) HG4.out ?_ (by rw [← hm.out]; exact HO4.out)
                  intro b hb
                  injection hb with hb
                  have hb : gg = b := hb
                  subst hb
                  rcases HAt.out with h | h
                  · exact .inl h
                  · exact .inr (by simp; omega)
              case measure => simp [intOf]; omega
    · have hie : i = s.size + 1 := by omega
      have hall : Wd.lines s.data.toList = .ok acc := by
        have h1 := hpos.out.gt (by rw [HLen.out]; omega)
        rw [hst.out.eq rest hpos.out.sp, h1]
        simp [Wd.rows, Except.map]
      have HPo : Hid (LinesPost s w (.returned (.tuple #[.slice ad m c, .int .i64 0, .int .i64 0, .int .i64 0])) wr) := by
        show LinesPost _ _ _ _
        unfold LinesPost
        rw [hall]
        exact ⟨_, rfl, hst.out.rds, hst.out.bel⟩
      have hxz : decide ((i : Int) ≤ (s.size : Int)) = false := by simp; omega
      clear hie hall
      go_wp2_with fail
      refine bodyPost_ret (v := .tuple #[.slice ad m c, .int .i64 0, .int .i64 0, .int .i64 0]) (by simp [results, go_sem]) rfl ?_
      exact HPo.out
end Go.Proofs.YtlamhpiiikcpiaaGreatDoor
/-
  Walks over the laws of words: cut, alive.
-/
namespace Go.Proofs.YtlamhpiiikcpiaaGreatDoor
open Go.RowKit Go.Shelf
set_option linter.unusedVariables false
set_option linter.unusedSimpArgs false
def cutB (s : ByteArray) : ByteArray := if 4000 < s.size then s.extract 0 4000 else s
def aliveT : ByteArray := ⟨#[97, 45, 62, 98, 32, 60, 61, 50]⟩
def aliveW : List Wrd := [⟨⟨#[97]⟩, 1, 1⟩, ⟨⟨#[45, 62]⟩, 1, 2⟩, ⟨⟨#[98]⟩, 1, 4⟩, ⟨⟨#[60, 61]⟩, 1, 6⟩, ⟨⟨#[50]⟩, 1, 8⟩]
end Go.Proofs.YtlamhpiiikcpiaaGreatDoor
/-
  Walks over the reference of words: Same.
-/
namespace Go.Proofs.YtlamhpiiikcpiaaGreatDoor
open Go.RowKit Go.Shelf
set_option linter.unusedVariables false
set_option linter.unusedSimpArgs false
/-- What is told at a place of lines. -/
def LnAt (W : World) (ad : Option Addr) (acc : List (List Wrd)) : Prop :=
  ∀ i (h : i < acc.length), ∃ b off adw capw, ad = some ⟨b, off, none⟩ ∧ b < W.heap.size ∧ W.cell? ⟨b, off + i, none⟩ = some (.slice adw acc[i].length capw) ∧ RdsW (fun _ => True) W (.slice adw acc[i].length capw) acc[i]
theorem LnAt.below {w w' : World} {ad : Option Addr} {acc : List (List Wrd)} (h : LnAt w ad acc) (hb : Below w.heap.size w w') : LnAt w' ad acc := fun i hi => by
  obtain ⟨b, off, adw, capw, e, hl, hc, hr⟩ := h i hi
  exact ⟨b, off, adw, capw, e, Nat.lt_of_lt_of_le hl hb.size, (hb.cell (p := ⟨b, off + i, none⟩) hl).trans hc, hr.below hb⟩
theorem RdsW.at_ {ok : Nat → Prop} {w : World} {adw : Option Addr} {n capw : Nat} {ws : List Wrd} (h : RdsW ok w (.slice adw n capw) ws) (i : Nat) (hi : i < ws.length) : ∃ b off, adw = some ⟨b, off, none⟩ ∧ b < w.heap.size ∧
    w.cell? ⟨b, off + i * 3, none⟩ = some (.string ws[i].t) ∧ w.cell? ⟨b, off + i * 3 + 1, none⟩ = some (.int .i64 ws[i].l) ∧ w.cell? ⟨b, off + i * 3 + 2, none⟩ = some (.int .i64 ws[i].c) := by
  obtain ⟨ad', cap', e, _, _, hg⟩ := h
  injection e with e1 _ _
  subst e1
  obtain ⟨b, off, h1, h2, _, h3⟩ := hg i hi
  exact ⟨b, off, h1, h2, h3⟩
end Go.Proofs.YtlamhpiiikcpiaaGreatDoor
/-
  Walks over package words and the reference: Number.
-/
namespace Go.Proofs.YtlamhpiiikcpiaaGreatDoor
open Go.RowKit Go.Shelf
set_option linter.unusedVariables false
set_option linter.unusedSimpArgs false
namespace Wd
def numF : Nat → List UInt8 → Option Nat
  | n, [] => some n
  | n, c :: t => if Rp.isDigit c then numF (n * 10 + (c.toNat - 48)) t else none
/-- A number's value and its error. -/
def numE (l : List UInt8) : Nat × Nat :=
  if l.length = 0 ∨ 10 < l.length ∨ (l.headD 0 = 48 ∧ 1 < l.length) then (0, 32)
  else match numF 0 l with
    | none => (0, 32)
    | some n => if 2147483647 < n then (0, 32) else (n, 0)
end Wd
theorem digit_range {c : UInt8} (h : Rp.isDigit c = true) : 48 ≤ c.toNat ∧ c.toNat ≤ 57 := by
  unfold Rp.isDigit at h
  simp only [Bool.and_eq_true, decide_eq_true_eq] at h
  have h1 : (48 : UInt8).toNat ≤ c.toNat := h.1
  have h2 : c.toNat ≤ (57 : UInt8).toNat := h.2
  exact ⟨h1, h2⟩
/-- Where the number's reader is. -/
structure NumSt (s : ByteArray) (k n : Nat) : Prop where
  eq : Wd.numE s.data.toList = (match Wd.numF n (s.data.toList.drop k) with
    | none => (0, 32)
    | some n => if 2147483647 < n then (0, 32) else (n, 0))
  lt : n < 10 ^ k
theorem NumSt.start {s : ByteArray} (h0 : ¬ s.size = 0) (h1 : s.size ≤ 10) (h2 : ¬ (s[0]'(by omega) = 48 ∧ 1 < s.size)) : NumSt s 0 0 := by
  refine ⟨?_, by simp⟩
  unfold Wd.numE
  rw [size_list, head_byte s (by omega), if_neg (by rintro (h | h | h); exact h0 h; omega; exact h2 h)]
  rfl
theorem NumSt.step {s : ByteArray} {k n : Nat} (h : NumSt s k n) (hk : k < s.size) (hd : Rp.isDigit s[k] = true) : NumSt s (k + 1) (n * 10 + (s[k].toNat - 48)) := by
  refine ⟨?_, ?_⟩
  · have e : s.data.toList.drop k = s[k] :: s.data.toList.drop (k + 1) := by rw [List.drop_eq_getElem_cons (by simpa using hk)]; rfl
    rw [h.eq, e, Wd.numF, if_pos hd]
  · have h1 := h.lt
    have h2 := digit_range hd
    rw [Nat.pow_succ]
    omega
theorem NumSt.bad {s : ByteArray} {k n : Nat} (h : NumSt s k n) (hk : k < s.size) (hd : Rp.isDigit s[k] = false) : Wd.numE s.data.toList = (0, 32) := by
  have e : s.data.toList.drop k = s[k] :: s.data.toList.drop (k + 1) := by rw [List.drop_eq_getElem_cons (by simpa using hk)]; rfl
  rw [h.eq, e, Wd.numF, hd]
  rfl
theorem NumSt.done {s : ByteArray} {k n : Nat} (h : NumSt s k n) (hk : k = s.size) : Wd.numE s.data.toList = if 2147483647 < n then (0, 32) else (n, 0) := by
  rw [h.eq, hk, List.drop_of_length_le (by rw [size_list]; omega)]
  rfl
theorem numE_bad {s : ByteArray} (h : s.size = 0 ∨ 10 < s.size) : Wd.numE s.data.toList = (0, 32) := by
  unfold Wd.numE
  rw [size_list, if_pos (by rcases h with h | h; exact .inl h; exact .inr (.inl h))]
theorem numE_zero {s : ByteArray} (h : 1 < s.size) (hz : s[0] = 48) : Wd.numE s.data.toList = (0, 32) := by
  unfold Wd.numE
  rw [size_list, head_byte s (by omega), if_pos (.inr (.inr ⟨hz, h⟩))]
theorem num_lt {k n : Nat} (h : n < 10 ^ k) (hk : k ≤ 10) : n < 10000000000 := by
  have : 10 ^ k ≤ 10 ^ 10 := Nat.pow_le_pow_right (by omega) hk
  omega
def numR (l : List UInt8) : Ending := .returned (.tuple #[.int .i64 (Wd.numE l).1, .int .i64 (Wd.numE l).2])
theorem numR_bad {l : List UInt8} (h : Wd.numE l = (0, 32)) : Ending.returned (.tuple #[.int .i64 0, .int .i64 32]) = numR l := by unfold numR; rw [h]; rfl
theorem numR_ok {l : List UInt8} {n : Nat} (h : Wd.numE l = (n, 0)) : Ending.returned (.tuple #[.int .i64 n, .int .i64 0]) = numR l := by unfold numR; rw [h]; rfl
set_option maxHeartbeats 1600000 in
set_option maxRecDepth 20000 in
theorem Number_any (s : ByteArray) (w : World) (hs : s.size ≤ maxLen) : Calls Tryz.prog 85 #[.string s] w fun e w' => e = numR s.data.toList ∧ w = w' := by
  unfold maxLen at hs
  by_cases h0 : s.size = 0
  · have HF := Lib.hid (numE_bad (s := s) (.inl h0))
    have hn := str_nil s h0
    have hne : (s.toList.isEmpty) = true := by rw [hn]; rfl
    go_enter Tryz.func85, Tryz.ntmps85
    go_wp2_with fail
    go_ret2
    exact ⟨numR_bad HF.out, rfl⟩
  · have hnn := str_not_nil s h0
    have hne : (s.toList.isEmpty) = false := by simpa using hnn
    by_cases h1 : 10 < s.size
    · have HF := Lib.hid (numE_bad (s := s) (.inr h1))
      have hz : (10 : Int) < (s.size : Int) := by omega
      go_enter Tryz.func85, Tryz.ntmps85
      go_wp2_with fail
      go_ret2
      exact ⟨numR_bad HF.out, rfl⟩
    · have hz : decide ((10 : Int) < (s.size : Int)) = false := by simp; omega
      have hp : 0 < s.size := by omega
      by_cases h2 : s[0] = 48 ∧ 1 < s.size
      · have HF := Lib.hid (numE_zero h2.2 h2.1)
        have hb := byte_eq (48 : UInt8) h2.1 48 rfl
        have hl : (1 : Int) < (s.size : Int) := by omega
        clear h2
        go_enter Tryz.func85, Tryz.ntmps85
        go_wp2_with fail
        go_ret2
        exact ⟨numR_bad HF.out, rfl⟩
      · have HS := Lib.hid (NumSt.start h0 (by omega) h2)
        have hcase : ((s[0].toNat : Int) == 48) = true ∧ decide ((1 : Int) < (s.size : Int)) = false ∨ ((s[0].toNat : Int) == 48) = false := by
          by_cases h : s[0] = 48
          · exact .inl ⟨(byte_eq (48 : UInt8) h 48 rfl).1, by simp; have : ¬ 1 < s.size := fun hh => h2 ⟨h, hh⟩; omega⟩
          · exact .inr (byte_ne (48 : UInt8) h 48 rfl).1
        clear h2
        rcases hcase with ⟨hb, hl⟩ | hb
        all_goals
          go_enter Tryz.func85, Tryz.ntmps85
          go_wp2_with fail
          go_loop [4, 25] (fun nv kv => ∃ n k : Nat, k ≤ s.size ∧ nv = .int .i64 n ∧ kv = .int .i64 k ∧ n < 10000000000 ∧ Hid (NumSt s k n)) (fun nv kv => s.size - (intOf kv).toNat)
          case atStart => exact ⟨0, 0, Nat.zero_le _, rfl, rfl, by omega, HS.out⟩
          case round =>
            obtain ⟨n, k, hk, rfl, rfl, hnl, HN⟩ := hrel
            by_cases hlt : k < s.size
            · have hkz : (k : Int) < (s.size : Int) := by omega
              obtain ⟨d, hd⟩ : ∃ d, Rp.isDigit s[k] = d := ⟨_, rfl⟩
              have HD := Lib.hid (digit_is s[k] d hd)
              have HDd := Lib.hid hd
              clear hd
              cases d with
              | true =>
                obtain ⟨r1, r2⟩ := digit_range HDd.out
                have r3 : (48 : Int) ≤ (s[k].toNat : Int) := by omega
                have r4 : (s[k].toNat : Int) ≤ 57 := by omega
                have HN2 := Lib.hid (HN.out.step hlt HDd.out)
                have hn2 : n * 10 + (s[k].toNat - 48) < 10000000000 := num_lt HN2.out.lt (by omega)
                go_wp2_with ((with_reducible refine (HD.out _).mono ?_); rintro e w' ⟨rfl, rfl⟩)
                go_round
                case rel => exact ⟨_, k + 1, by omega, by go_num, by go_num, hn2, HN2⟩
                case measure => simp [intOf]; omega
              | false =>
                have HF := Lib.hid (HN.out.bad hlt HDd.out)
                go_wp2_with ((with_reducible refine (HD.out _).mono ?_); rintro e w' ⟨rfl, rfl⟩)
                go_ret2
                exact ⟨numR_bad HF.out, rfl⟩
            · have hkz : decide ((k : Int) < (s.size : Int)) = false := by simp; omega
              have HE := Lib.hid (HN.out.done (by omega))
              by_cases hbig : 2147483647 < n
              · have hbz : (2147483647 : Int) < (n : Int) := by omega
                have HF : Hid (Wd.numE s.data.toList = (0, 32)) := by show _ = _; rw [HE.out, if_pos hbig]
                go_wp2_with fail
                go_ret2
                exact ⟨numR_bad HF.out, rfl⟩
              · have hbz : decide ((2147483647 : Int) < (n : Int)) = false := by simp; omega
                have HF : Hid (Wd.numE s.data.toList = (n, 0)) := by show _ = _; rw [HE.out, if_neg hbig]
                go_wp2_with fail
                go_ret2
                exact ⟨numR_ok HF.out, rfl⟩
set_option maxHeartbeats 1600000 in
set_option maxRecDepth 20000 in
theorem rNumber_any (s : ByteArray) (w : World) (hs : s.size ≤ maxLen) : Calls Tryz.prog 94 #[.string s] w fun e w' => e = numR s.data.toList ∧ w = w' := by
  unfold maxLen at hs
  by_cases h0 : s.size = 0
  · have HF := Lib.hid (numE_bad (s := s) (.inl h0))
    have hn := str_nil s h0
    have hne : (s.toList.isEmpty) = true := by rw [hn]; rfl
    go_enter Tryz.func94, Tryz.ntmps94
    go_wp2_with fail
    go_ret2
    exact ⟨numR_bad HF.out, rfl⟩
  · have hnn := str_not_nil s h0
    have hne : (s.toList.isEmpty) = false := by simpa using hnn
    by_cases h1 : 10 < s.size
    · have HF := Lib.hid (numE_bad (s := s) (.inr h1))
      have hz : (10 : Int) < (s.size : Int) := by omega
      go_enter Tryz.func94, Tryz.ntmps94
      go_wp2_with fail
      all_goals (go_ret2; exact ⟨numR_bad HF.out, rfl⟩)
    · have hz : decide ((10 : Int) < (s.size : Int)) = false := by simp; omega
      have hp : 0 < s.size := by omega
      by_cases h2 : s[0] = 48 ∧ 1 < s.size
      · have HF := Lib.hid (numE_zero h2.2 h2.1)
        have hb := byte_eq (48 : UInt8) h2.1 48 rfl
        have hl : (1 : Int) < (s.size : Int) := by omega
        clear h2
        go_enter Tryz.func94, Tryz.ntmps94
        go_wp2_with fail
        go_ret2
        exact ⟨numR_bad HF.out, rfl⟩
      · have HS := Lib.hid (NumSt.start h0 (by omega) h2)
        have hcase : ((s[0].toNat : Int) == 48) = true ∧ decide ((1 : Int) < (s.size : Int)) = false ∨ ((s[0].toNat : Int) == 48) = false := by
          by_cases h : s[0] = 48
          · exact .inl ⟨(byte_eq (48 : UInt8) h 48 rfl).1, by simp; have : ¬ 1 < s.size := fun hh => h2 ⟨h, hh⟩; omega⟩
          · exact .inr (byte_ne (48 : UInt8) h 48 rfl).1
        clear h2
        rcases hcase with ⟨hb, hl⟩ | hb
        all_goals
          go_enter Tryz.func94, Tryz.ntmps94
          go_wp2_with fail
          go_loop [4, 5] (fun nv kv => ∃ n k : Nat, k ≤ s.size ∧ nv = .int .i64 n ∧ kv = .int .i64 k ∧ n < 10000000000 ∧ Hid (NumSt s k n)) (fun nv kv => s.size - (intOf kv).toNat)
          case atStart => exact ⟨0, 0, Nat.zero_le _, rfl, rfl, by omega, HS.out⟩
          case round =>
            obtain ⟨n, k, hk, rfl, rfl, hnl, HN⟩ := hrel
            by_cases hlt : k < s.size
            · have hkz : (k : Int) < (s.size : Int) := by omega
              obtain ⟨d, hd⟩ : ∃ d, Rp.isDigit s[k] = d := ⟨_, rfl⟩
              have HD := Lib.hid (rdigit_is s[k] d hd)
              have HDd := Lib.hid hd
              clear hd
              cases d with
              | true =>
                obtain ⟨r1, r2⟩ := digit_range HDd.out
                have r3 : (48 : Int) ≤ (s[k].toNat : Int) := by omega
                have r4 : (s[k].toNat : Int) ≤ 57 := by omega
                have HN2 := Lib.hid (HN.out.step hlt HDd.out)
                have hn2 : n * 10 + (s[k].toNat - 48) < 10000000000 := num_lt HN2.out.lt (by omega)
                go_wp2_with ((with_reducible refine (HD.out _).mono ?_); rintro e w' ⟨rfl, rfl⟩)
                go_round
                case rel => exact ⟨_, k + 1, by omega, by go_num, by go_num, hn2, HN2⟩
                case measure => simp [intOf]; omega
              | false =>
                have HF := Lib.hid (HN.out.bad hlt HDd.out)
                go_wp2_with ((with_reducible refine (HD.out _).mono ?_); rintro e w' ⟨rfl, rfl⟩)
                go_ret2
                exact ⟨numR_bad HF.out, rfl⟩
            · have hkz : decide ((k : Int) < (s.size : Int)) = false := by simp; omega
              have HE := Lib.hid (HN.out.done (by omega))
              by_cases hbig : 2147483647 < n
              · have hbz : (2147483647 : Int) < (n : Int) := by omega
                have HF : Hid (Wd.numE s.data.toList = (0, 32)) := by show _ = _; rw [HE.out, if_pos hbig]
                go_wp2_with fail
                go_ret2
                exact ⟨numR_bad HF.out, rfl⟩
              · have hbz : decide ((2147483647 : Int) < (n : Int)) = false := by simp; omega
                have HF : Hid (Wd.numE s.data.toList = (n, 0)) := by show _ = _; rw [HE.out, if_neg hbig]
                go_wp2_with fail
                go_ret2
                exact ⟨numR_ok HF.out, rfl⟩
end Go.Proofs.YtlamhpiiikcpiaaGreatDoor
/-
  The law WordsLines: its walk.
-/
namespace Go.Proofs.YtlamhpiiikcpiaaGreatDoor
open Go.RowKit Go.Shelf
set_option linter.unusedVariables false
set_option linter.unusedSimpArgs false
theorem rlines_err (s : ByteArray) (w : World) (hs : s.size ≤ 1048576) (num p : Nat) (h : Wd.lines s.data.toList = .error (num, p)) :
    Calls Tryz.prog 56 #[.string s] w fun e w' => e = .returned (.tuple #[.slice none 0 0, .int .i64 num, .int .i64 ((p : Int) + 1), .int .i64 30]) ∧ Below w.heap.size w w' :=
  (rlines_any s w hs).mono fun e w' hp => by unfold LinesPost at hp; rw [h] at hp; exact hp
end Go.Proofs.YtlamhpiiikcpiaaGreatDoor
