/-
  Walks over the reference of words: line.
-/
import Derived.Test.YtfnfmkejkgiclaaDoorWdI
import Derived.OwnWalk
namespace Go.Proofs.YtfnfmkejkgiclaaDoor
open Go.RowKit
set_option linter.unusedVariables false
set_option linter.unusedSimpArgs false

/-- What the reference's line tells. -/
def RLinePost (num : Nat) (s : ByteArray) (w : World) (e : Ending) (w' : World) : Prop :=
  (match Wd.line num s.data.toList 0 with
  | .ok ws => ∃ ad c, e = .returned (.tuple #[.slice ad ws.length c, .int .i64 (-1)]) ∧ w'.ownsRow w.heap.size 41 3 (.slice ad ws.length c) ws.length (cellsW ws)
  | .error p => e = .returned (.tuple #[.slice none 0 0, .int .i64 p])) ∧ Below w.heap.size w w'

/-- What the reader has come to. -/
structure RLn (num : Nat) (s : ByteArray) (w : World) (x : Nat) (pre : List Wrd) (ad : Option Addr) (c : Nat) (wr : World) : Prop where
  own : wr.ownsRow w.heap.size 41 3 (.slice ad pre.length c) pre.length (cellsW pre)
  few : pre.length ≤ x
  eq : Wd.line num s.data.toList 0 = (Wd.line num (s.data.toList.drop x) x).map (pre ++ ·)
  bel : Below w.heap.size w wr

theorem RLn.done {num : Nat} {s : ByteArray} {w : World} {x : Nat} {pre : List Wrd} {ad : Option Addr} {c : Nat} {wr : World} (h : RLn num s w x pre ad c wr) (hl : Wd.line num (s.data.toList.drop x) x = .ok []) : RLinePost num s w (.returned (.tuple #[.slice ad pre.length c, .int .i64 (-1)])) wr := by
  unfold RLinePost
  rw [h.eq, hl]
  simp only [Except.map, List.append_nil]
  exact ⟨⟨ad, c, rfl, h.own⟩, h.bel⟩
theorem RLn.bad {num : Nat} {s : ByteArray} {w : World} {x : Nat} {pre : List Wrd} {ad : Option Addr} {c : Nat} {wr : World} (h : RLn num s w x pre ad c wr) (hl : Wd.line num (s.data.toList.drop x) x = .error x) : RLinePost num s w (.returned (.tuple #[.slice none 0 0, .int .i64 x])) wr := by
  unfold RLinePost
  rw [h.eq, hl]
  simp only [Except.map]
  exact ⟨by first | rfl | trivial, h.bel⟩

theorem RLn.blank {num : Nat} {s : ByteArray} {w : World} {x : Nat} {pre : List Wrd} {ad : Option Addr} {c : Nat} {wr : World} (h : RLn num s w x pre ad c wr) (hx : x < s.size) (hc : s[x] = 32 ∨ s[x] = 9) : RLn num s w (x + 1) pre ad c wr := by
  have hd : s.data.toList.drop x = s[x] :: s.data.toList.drop (x + 1) := by
    rw [List.drop_eq_getElem_cons (by simpa using hx)]; rfl
  exact ⟨h.own, by have := h.few; omega, by rw [h.eq, hd, Wd.line_blank _ _ _ _ hc], h.bel⟩

theorem RLn.word {num : Nat} {s : ByteArray} {w : World} {x : Nat} {pre : List Wrd} {ad : Option Addr} {c : Nat} {wr W1 : World} (h : RLn num s w x pre ad c wr) {n : Nat} (hn : Wd.size (s.data.toList.drop x) = n) (hx : x < s.size) (h35 : ¬ s[x] = 35) (hb : ¬ (s[x] = 32 ∨ s[x] = 9)) (hn0 : n ≠ 0)
    (hg : (wr.alloc (.cells #[.string (s.extract x (x + n)), .int .i64 num, .int .i64 ((x : Int) + 1)] 41)).grownBy W1 (Value.slice ad pre.length c).ownBlock) {v' : Value}
    (ho : W1.ownsRow w.heap.size 41 3 v' (pre.length + 1) (cellsW pre ++ [.string (s.extract x (x + n)), .int .i64 num, .int .i64 ((x : Int) + 1)])) :
    ∃ ad' c', v' = .slice ad' (pre.length + 1) c' ∧ RLn num s w (x + n) (pre ++ [⟨s.extract x (x + n), num, x + 1⟩]) ad' c' W1 := by
  obtain ⟨ad', c', rfl, _⟩ := ownsRow_slice ho
  have hd : s.data.toList.drop x = s[x] :: s.data.toList.drop (x + 1) := by
    rw [List.drop_eq_getElem_cons (by simpa using hx)]; rfl
  refine ⟨ad', c', rfl, ?_, ?_, ?_, own_step (h.bel.alloc h.bel.size _) (h.own.alloc _) hg⟩
  · rw [List.length_append, List.length_singleton, cellsW_append, cellsW_one]; exact ho
  · rw [List.length_append, List.length_singleton]; have := h.few; omega
  · have hw := Wd.line_word num x s[x] (s.data.toList.drop (x + 1)) h35 hb (by rw [← hd, hn]; exact hn0)
    rw [← hd, hn, List.drop_drop] at hw
    rw [h.eq, hw]
    have hmk : Wd.mkB ((s.data.toList.drop x).take n) = s.extract x (x + n) := by
      rw [← Wd.mkB_of (s.extract x (x + n)), Lib.extract_data, show x + n - x = n by omega]
    rw [hmk]
    cases Wd.line num (s.data.toList.drop (x + n)) (x + n) <;> simp [Except.map]

set_option maxHeartbeats 6400000 in
set_option maxRecDepth 20000 in
theorem rline_any (num : Nat) (s : ByteArray) (w : World) (hs : s.size ≤ 1048576) :
    Calls Tryd.prog 25 #[.string s, .int .i64 num] w (RLinePost num s w) := by
  have H0 : Hid (RLn num s w 0 [] none 0 w) := ⟨World.ownsRow_nil _ _ _ _, Nat.le_refl _, by simp [Except.map]; cases Wd.line num s.data.toList 0 <;> rfl, Below.refl _ _⟩
  obtain ⟨i0, hi, hz0, hz1, hz2⟩ := info_parts infoW
  go_enter Tryd.func25, Tryd.ntmps25
  go_wp2_with fail
  go_loopw [6, 7] (fun l i wr => ∃ (x : Nat) (pre : List Wrd) (ad : Option Addr) (c m : Nat), x ≤ s.size ∧ i = .int .i64 x ∧ l = .slice ad m c ∧ Hid (m = pre.length) ∧ m ≤ x ∧ Hid (RLn num s w x pre ad c wr)) (fun _ i wr => s.size - (intOf i).toNat)
  case atStart => exact ⟨0, [], none, 0, 0, Nat.zero_le _, rfl, rfl, rfl, Nat.le_refl _, H0⟩
  case round =>
    obtain ⟨x, pre, ad, c, m, hle, rfl, rfl, hml, hmx, hr⟩ := hrel
    have hx0 : (0 : Int) ≤ (x : Int) := by omega
    by_cases hx : x < s.size
    · have hd : s.data.toList.drop x = s[x] :: s.data.toList.drop (x + 1) := by
        rw [List.drop_eq_getElem_cons (by simpa using hx)]; rfl
      have HD := Lib.hid hd
      have hxz : (x : Int) < (s.size : Int) := by omega
      clear hd
      by_cases h35 : s[x] = 35
      · have HE : Hid (Wd.line num (s.data.toList.drop x) x = .ok []) := by show _ = _; rw [HD.out, h35, Wd.line_hash]
        have t1 : (((s[x].toNat : Nat) : Int) == 35) = true := byte_test _ 35 _ (by simp [h35])
        have t2 : (((s[x].toNat : Nat) : Int) != 35) = false := by rw [bne, t1]; rfl
        clear h35
        go_wp2_with fail
        go_ret2
        have := hr.out.done HE.out
        rw [← hml.out] at this
        exact this
      · have t1 : (((s[x].toNat : Nat) : Int) == 35) = false := byte_test _ 35 _ (by simp [h35])
        have t2 : (((s[x].toNat : Nat) : Int) != 35) = true := by rw [bne, t1]; rfl
        have H35 := Lib.hid h35
        clear h35
        by_cases hb : s[x] = 32 ∨ s[x] = 9
        · have HR2 := Lib.hid ((hr.out).blank hx hb)
          have hor : (((s[x].toNat : Nat) : Int) == 32) = true ∨ ((((s[x].toNat : Nat) : Int) == 32) = false ∧ (((s[x].toNat : Nat) : Int) == 9) = true) := by
            by_cases h32 : s[x] = 32
            · exact .inl (byte_test _ 32 _ (by simp [h32]))
            · exact .inr ⟨byte_test _ 32 _ (by simp [h32]), byte_test _ 9 _ (by simpa [h32] using hb)⟩
          clear hb
          rcases hor with h32 | ⟨h32, h9⟩
          all_goals
            go_wp2_with fail
            go_roundw
            case rel => exact ⟨x + 1, pre, ad, c, m, by omega, by go_num, rfl, hml, by omega, HR2⟩
            case measure => simp [intOf]; omega
        · obtain ⟨n, hn⟩ : ∃ n, Wd.size (s.data.toList.drop x) = n := ⟨_, rfl⟩
          have HZ : Hid (∀ W, Calls Tryd.prog 40 #[.string s, .int .i64 x] W fun e w' => e = .returned (.int .i64 n) ∧ W = w') := fun W =>
            (rnext_any x s W hx hs).mono (by rintro e w' ⟨rfl, rfl⟩; rw [hn]; exact ⟨rfl, rfl⟩)
          have h32 : (((s[x].toNat : Nat) : Int) == 32) = false := byte_test _ 32 _ (by simp; exact fun h => hb (.inl h))
          have h9 : (((s[x].toNat : Nat) : Int) == 9) = false := byte_test _ 9 _ (by simp; exact fun h => hb (.inr h))
          have HN := Lib.hid hn
          have HB := Lib.hid hb
          have hns : n ≤ s.size - x := by
            have := Wd.size_le (s.data.toList.drop x) (by rw [HD.out]; simp)
            rw [hn, List.length_drop, ← Lib.size_eq] at this
            exact this
          clear hn hb
          by_cases hn0 : n = 0
          · subst hn0
            have HE : Hid (Wd.line num (s.data.toList.drop x) x = .error x) := by
              show _ = _
              rw [HD.out, Wd.line_bad _ _ _ _ H35.out HB.out (by rw [← HD.out]; exact HN.out)]
            go_wp2_with ((with_reducible refine (HZ.out _).mono ?_); rintro e w' ⟨rfl, rfl⟩)
            go_ret2
            exact hr.out.bad HE.out
          · have hnz : ((n : Int) == 0) = false := by simpa using hn0
            have hi3 : (0 : Int) ≤ (x : Int) + (n : Int) := by omega
            have hi4 : ((x : Int) + (n : Int)).toNat = x + n := by omega
            have hi5 : (x : Int) + (n : Int) ≤ (s.size : Int) := by omega
            have hi6 : (x : Int) ≤ (x : Int) + (n : Int) := by omega
            have HOw : Hid (wr.ownsRow w.heap.size 41 3 (.slice ad m c) m (cellsW pre)) := by rw [hml.out]; exact hr.out.own
            have HN0 := Lib.hid hn0
            have HBs : Hid (w.heap.size ≤ wr.heap.size) := hr.out.bel.size
            clear hn0
            go_wp2_with (first | ((with_reducible refine (HZ.out _).mono ?_); rintro e w' ⟨rfl, rfl⟩) | (at_builtin; refine wpList_append_own _ rfl (.tmp 37) (.tmp 48) 39 rfl w.heap.size 41 i0 _ 3 32 Tryd.underlying39 hi hz0 hz1 hz2 rfl (by omega) (.slice ad m c) m (cellsW pre) (by rfl) (HOw.out.alloc _) ⟨wr.heap.size, 0, none⟩ 1 1 [.string (s.extract x (x + n)), .int .i64 num, .int .i64 ((x : Int) + 1)] (by rfl) (by rfl) (World.news_of_block (cs := #[.string (s.extract x (x + n)), .int .i64 num, .int .i64 ((x : Int) + 1)]) (t := 41) (fr := (0, 0)) (heap_alloc_new wr _)) (by simp [Value.oneCell']) (by unfold maxLen; omega) (by omega) (by have := HBs.out; simp; omega) ?_; intro v' w1 hown1 hgrow _; have hW := hr.out.word HN.out hx H35.out HB.out HN0.out (by rw [← hml.out]; exact hgrow) (by rw [← hml.out]; exact hown1); obtain ⟨ad', c', rfl, hW2⟩ := hW; have HW := Lib.hid hW2; clear hown1 hgrow hW2))
            go_roundw
            case rel => exact ⟨x + n, _, ad', c', m + 1, by omega, by go_num, by rw [hml.out], by show _ = _; rw [hml.out]; simp, by have := HN0.out; omega, HW⟩
            case measure => simp [intOf]; have := HN0.out; omega
    · have hxe : x = s.size := by omega
      have HE : Hid (Wd.line num (s.data.toList.drop x) x = .ok []) := by show _ = _; rw [hxe, List.drop_of_length_le (by rw [Lib.size_eq]; omega), Wd.line_nil]
      have hxz : decide ((x : Int) < (s.size : Int)) = false := by simp; omega
      clear hxe
      go_wp2_with fail
      go_ret2
      have := hr.out.done HE.out
      rw [← hml.out] at this
      exact this
end Go.Proofs.YtfnfmkejkgiclaaDoor
