/-
  Walks over the reference of words: Lines.
-/
import Derived.Test.YtfnfmkejkgiclaaDoorWdJ
import Derived.Deep.AppendLies
namespace Go.Proofs.YtfnfmkejkgiclaaDoor
open Go.RowKit
set_option linter.unusedVariables false
set_option linter.unusedSimpArgs false

/-- The reference between two lines. -/
structure RLs (w : World) (s : ByteArray) (pre : List (List UInt8)) (acc : List (List Wrd)) (v : Value) (us : List Value) (W : World) : Prop where
  own : W.ownsRow w.heap.size 39 1 v us.length us
  len : us.length = acc.length
  rd : ∀ i (h : i < us.length) (h' : i < acc.length), RdsW (fun b => w.heap.size ≤ b ∧ v.ownBlock ≠ some b) W us[i] acc[i]
  bel : Below w.heap.size w W
  eq : ∀ rest, Wd.split s.data.toList = pre ++ rest → Wd.lines s.data.toList = (Wd.rows rest (pre.length + 1)).map (acc ++ ·)
  few : acc.length ≤ pre.length

theorem RLs.same {w : World} {s : ByteArray} {pre : List (List UInt8)} {acc : List (List Wrd)} {v : Value} {us : List Value} {W W' : World} (h : RLs w s pre acc v us W) {x : List UInt8} (hp : Wd.line (pre.length + 1) x 0 = .ok []) (hb : Below W.heap.size W W') : RLs w s (pre ++ [x]) acc v us W' := by
  refine ⟨ownsRow_below h.own hb, h.len, fun i h1 h2 => (h.rd i h1 h2).below hb, h.bel.trans (hb.mono h.bel.size), fun rest hs => ?_, by have := h.few; simp; omega⟩
  rw [h.eq (x :: rest) (by rw [hs]; simp)]
  simp only [Wd.rows, hp]
  rw [List.length_append, List.length_singleton]
  cases Wd.rows rest (pre.length + 1 + 1) <;> rfl

theorem RLs.more {w : World} {s : ByteArray} {pre : List (List UInt8)} {acc : List (List Wrd)} {v : Value} {us : List Value} {W W2 W3 : World} (h : RLs w s pre acc v us W) {x : List UInt8} {ws : List Wrd} (hp : Wd.line (pre.length + 1) x 0 = .ok ws) (hne : ws ≠ [])
    {u v' : Value} (hw : RdsW (fun b => W.heap.size ≤ b) W2 u ws) (hb2 : Below W.heap.size W W2) (hg : W2.grownBy W3 v.ownBlock) (hv' : ∀ b, v'.ownBlock = some b → v.ownBlock = some b ∨ W2.heap.size ≤ b)
    (ho : W3.ownsRow w.heap.size 39 1 v' (us.length + 1) (us ++ [u])) : RLs w s (pre ++ [x]) (acc ++ [ws]) v' (us ++ [u]) W3 := by
  have hvo : ∀ b, v.ownBlock = some b → w.heap.size ≤ b ∧ b < W.heap.size := fun b e => by
    rcases h.own.2 with ⟨h1, _⟩ | ⟨g, cap, cur, hv, hg, hh, _⟩
    · rw [h1] at e; cases e
    · rw [hv] at e; injection e with e; subst e; exact ⟨hg, (Array.getElem?_eq_some_iff.1 hh).1⟩
  have hbut : But (fun k => v.ownBlock = some k) W2 W3 := ⟨hg.os, hg.tape, hg.output, hg.size, fun k hk hn => hg.block k hk (fun e => hn e.symm)⟩
  have s2 := hb2.size
  have hokA : ∀ b, w.heap.size ≤ b ∧ v.ownBlock ≠ some b → b < W.heap.size → w.heap.size ≤ b ∧ v'.ownBlock ≠ some b := fun b hb hlt => ⟨hb.1, fun e => by rcases hv' b e with h1 | h1; exact hb.2 h1; omega⟩
  refine ⟨by rw [List.length_append, List.length_singleton]; exact ho, by simp [h.len], ?_, own_step (h.bel.trans (hb2.mono h.bel.size)) (ownsRow_below h.own hb2) hg, fun rest hs => ?_, by have := h.few; simp; omega⟩
  · intro i h1 h2
    by_cases hi : i < us.length
    · have e1 : (us ++ [u])[i] = us[i] := List.getElem_append_left hi
      have e2 : (acc ++ [ws])[i] = acc[i]'(by have := h.len; omega) := List.getElem_append_left _
      rw [e1, e2]
      have r0 := h.rd i hi (by have := h.len; omega)
      have r1 := r0.mono (ok' := fun b => (w.heap.size ≤ b ∧ v.ownBlock ≠ some b) ∧ b < W.heap.size) (fun b hlt hb => ⟨hb, hlt⟩)
      have r2 := r1.below hb2
      have r3 := r2.but hbut (fun b hb e => hb.1.2 e)
      exact r3.mono (fun b _ hb => hokA b hb.1 hb.2)
    · have hi2 : i = us.length := by simp at h1; omega
      subst hi2
      have e1 : (us ++ [u])[us.length] = u := by simp
      have e2 : (acc ++ [ws])[us.length] = ws := by simp [h.len]
      rw [e1, e2]
      have r1 := hw.mono (ok' := fun b => W.heap.size ≤ b ∧ b < W2.heap.size) (fun b hlt hb => ⟨hb, hlt⟩)
      have r3 := r1.but hbut (fun b hb e => by have := (hvo b e).2; omega)
      refine r3.mono (fun b _ hb => ⟨by have := h.bel.size; omega, fun e => ?_⟩)
      rcases hv' b e with h1 | h1
      · have := (hvo b h1).2; omega
      · omega
  · rw [h.eq (x :: rest) (by rw [hs]; simp)]
    simp only [Wd.rows, hp]
    rw [List.length_append, List.length_singleton]
    have he : ws.isEmpty = false := by cases ws with | nil => exact absurd rfl hne | cons a l => rfl
    rw [he]
    cases Wd.rows rest (pre.length + 1 + 1) <;> simp [Except.map]

theorem RLs.rds {w : World} {s : ByteArray} {pre : List (List UInt8)} {acc : List (List Wrd)} {v : Value} {us : List Value} {W : World} (h : RLs w s pre acc v us W) : RdsLn (fun b => w.heap.size ≤ b) W v acc := by
  refine ⟨us, h.len, ownsRow_rds h.own, fun a n c e hn => ?_, fun i h1 h2 => (h.rd i h1 h2).mono fun b _ hb => hb.1⟩
  rcases h.own.2 with ⟨h1, h2⟩ | ⟨g, cap, cur, hv, hg, hh, _⟩
  · rw [h1] at e; cases e
  · rw [hv] at e; injection e with e _ _; injection e with e; subst e; exact hg

/-- The place in the text: f is where the line begins, i where the reader is. -/
structure RPos (L : List UInt8) (f i : Nat) (pre rest : List (List UInt8)) : Prop where
  sp : Wd.split L = pre ++ rest
  le : i ≤ L.length → f ≤ i ∧ rest = Wd.split (L.drop f) ∧ (10 : UInt8) ∉ (L.drop f).take (i - f)
  gt : L.length < i → rest = []

theorem RPos.byte {L : List UInt8} {f i : Nat} {pre rest : List (List UInt8)} (h : RPos L f i pre rest) (hi : i < L.length) (hc : ¬ L[i] = 10) : RPos L f (i + 1) pre rest := by
  obtain ⟨h1, h2, h3⟩ := h.le (by omega)
  refine ⟨h.sp, fun hl => ⟨by omega, h2, ?_⟩, fun hl => by omega⟩
  rw [show i + 1 - f = (i - f) + 1 by omega, List.take_succ_eq_append_getElem (by rw [List.length_drop]; omega)]
  intro hm
  rcases List.mem_append.1 hm with hm | hm
  · exact h3 hm
  · have : (L.drop f)[i - f]'(by rw [List.length_drop]; omega) = L[i] := by rw [List.getElem_drop]; congr 1; omega
    rw [List.mem_singleton, this] at hm
    exact hc hm.symm

/-- A line ends here. -/
theorem RPos.line {L : List UInt8} {f i : Nat} {pre rest : List (List UInt8)} (h : RPos L f i pre rest) (hi : i ≤ L.length) (hc : ∀ h : i < L.length, L[i] = 10) :
    ∃ rest', rest = (L.drop f).take (i - f) :: rest' ∧ RPos L (i + 1) (i + 1) (pre ++ [(L.drop f).take (i - f)]) rest' := by
  obtain ⟨h1, h2, h3⟩ := h.le hi
  by_cases hl : i < L.length
  · have hd : L.drop f = (L.drop f).take (i - f) ++ 10 :: L.drop (i + 1) := by
      have e1 : L.drop i = 10 :: L.drop (i + 1) := by rw [List.drop_eq_getElem_cons hl, hc hl]
      rw [← e1]
      have : L.drop i = (L.drop f).drop (i - f) := by rw [List.drop_drop]; congr 1; omega
      rw [this, List.take_append_drop]
    have hs : Wd.split (L.drop f) = (L.drop f).take (i - f) :: Wd.split (L.drop (i + 1)) := by
      have := Wd.split_some ((L.drop f).take (i - f)) (L.drop (i + 1)) h3
      rw [← hd] at this
      exact this
    refine ⟨Wd.split (L.drop (i + 1)), by rw [h2, hs], ?_, fun hl2 => ⟨Nat.le_refl _, rfl, by simp⟩, fun hl2 => by omega⟩
    rw [h.sp, h2, hs]; simp
  · have hie : i = L.length := by omega
    have ht : (L.drop f).take (i - f) = L.drop f := List.take_of_length_le (by rw [List.length_drop]; omega)
    rw [ht] at h3 ⊢
    have hs : Wd.split (L.drop f) = [L.drop f] := Wd.split_none _ h3
    refine ⟨[], by rw [h2, hs], ?_, fun hl2 => by omega, fun _ => rfl⟩
    rw [h.sp, h2, hs]; simp

theorem line_err (num : Nat) : ∀ (f : Nat) (l : List UInt8) (at_ p : Nat), Wd.lineF num f l at_ = .error p → p ≤ at_ + l.length := by
  intro f
  induction f with
  | zero => intro l at_ p h; simp [Wd.lineF] at h
  | succ f ih =>
    intro l at_ p h
    cases l with
    | nil => simp [Wd.lineF] at h
    | cons c t =>
      simp only [Wd.lineF] at h
      split at h
      · cases h
      · split at h
        · have := ih _ _ _ h
          simp; omega
        · split at h
          · injection h with h
            omega
          · cases hr : Wd.lineF num f ((c :: t).drop (Wd.size (c :: t))) (at_ + Wd.size (c :: t)) with
            | ok ws => rw [hr] at h; cases h
            | error q =>
              rw [hr] at h
              injection h with h
              have h1 := ih _ _ _ hr
              have h2 := Wd.size_le (c :: t) (by simp)
              rw [List.length_drop] at h1
              omega

set_option maxHeartbeats 800000 in
set_option maxRecDepth 20000 in
theorem rlines_long (s : ByteArray) (w : World) (hs : (1048576 : Int) < s.size) :
    Calls Tryd.prog 11 #[.string s] w fun e w' => e = .returned (.tuple #[.slice none 0 0, .int .i64 0, .int .i64 0, .int .i64 2]) ∧ w = w' := by
  go_enter Tryd.func11, Tryd.ntmps11
  go_wp2_with fail
  refine bodyPost_ret (v := .tuple #[.slice none 0 0, .int .i64 0, .int .i64 0, .int .i64 2]) (by simp [results, go_sem]) rfl ?_
  exact ⟨rfl, rfl⟩

set_option maxHeartbeats 6400000 in
set_option maxRecDepth 20000 in
theorem rlines_any (s : ByteArray) (w : World) (hs : s.size ≤ 1048576) : Calls Tryd.prog 11 #[.string s] w (LinesPost s w) := by
  have hs1 : decide ((1048576 : Int) < (s.size : Int)) = false := by simp; omega
  have hlen : s.data.toList.length = s.size := (Lib.size_eq s).symm
  obtain ⟨i0, hi, hz0, hz1, hz2⟩ := info_parts infoWs
  have HLen := Lib.hid hlen
  clear hlen
  go_enter Tryd.func11, Tryd.ntmps11
  go_wp2_with fail
  go_loopw [6, 7, 8, 9] (fun o fr nb iv wr => ∃ (f i k m : Nat) (pre rest : List (List UInt8)) (acc : List (List Wrd)) (ad : Option Addr) (c : Nat) (us : List Value), i ≤ s.size + 1 ∧ f ≤ s.size + 1 ∧ iv = .int .i64 i ∧ fr = .int .i64 f ∧ nb = .int .i64 ((k : Int) + 1) ∧ k ≤ f ∧ o = .slice ad m c ∧ m ≤ k ∧ Hid (k = pre.length) ∧ Hid (m = us.length) ∧ Hid (RPos s.data.toList f i pre rest) ∧ Hid (RLs w s pre acc (.slice ad m c) us wr)) (fun _ _ _ iv wr => s.size + 1 - (intOf iv).toNat)
  case atStart =>
    refine ⟨0, 0, 0, 0, [], Wd.split s.data.toList, [], none, 0, [], by omega, by omega, rfl, rfl, rfl, Nat.le_refl _, rfl, Nat.le_refl _, rfl, rfl, ⟨rfl, fun _ => ⟨Nat.le_refl _, rfl, by simp⟩, fun h => by omega⟩, ?_⟩
    refine ⟨World.ownsRow_nil _ _ _ _, rfl, fun i h => absurd h (Nat.not_lt_zero _), Below.refl _ _, fun rest h => ?_, Nat.le_refl _⟩
    rw [List.nil_append] at h
    unfold Wd.lines
    rw [h]
    cases Wd.rows rest 1 <;> simp [Except.map, h]
  case round =>
    obtain ⟨f, i, k, m, pre, rest, acc, ad, c, us, hi1, hf1, rfl, rfl, rfl, hkf, rfl, hmk, hk, hm, hpos, hst⟩ := hrel
    by_cases hil : i ≤ s.size
    · have hiz : (i : Int) ≤ (s.size : Int) := by omega
      have hfi : f ≤ i := (hpos.out.le (by rw [HLen.out]; exact hil)).1
      by_cases hc : ∃ h : i < s.size, ¬ s[i] = 10
      · obtain ⟨hlt, hne⟩ := hc
        have hlz : (i : Int) < (s.size : Int) := by omega
        have t1 : (((s[i].toNat : Nat) : Int) == 10) = false := byte_test _ 10 _ (by simp [hne])
        have t2 : (((s[i].toNat : Nat) : Int) != 10) = true := by rw [bne, t1]; rfl
        have HP : Hid (RPos s.data.toList f (i + 1) pre rest) := hpos.out.byte (by rw [HLen.out]; exact hlt) hne
        clear hne
        go_wp2_with fail
        go_roundw
        case rel => exact ⟨f, i + 1, k, m, pre, rest, acc, ad, c, us, by omega, hf1, by go_num, rfl, rfl, hkf, rfl, hmk, hk, hm, HP, hst⟩
        case measure => simp [intOf]; omega
      · have hall : ∀ h : i < s.data.toList.length, s.data.toList[i] = 10 := fun h => by
          have h2 : i < s.size := by have := HLen.out; omega
          exact Classical.byContradiction fun hn => hc ⟨h2, hn⟩
        obtain ⟨rest', hr, hp2⟩ := hpos.out.line (by rw [HLen.out]; exact hil) hall
        obtain ⟨x, hx⟩ : ∃ x, (s.data.toList.drop f).take (i - f) = x := ⟨_, rfl⟩
        rw [hx] at hr hp2
        have hex : (s.extract f i).data.toList = x := by rw [Lib.extract_data, hx]
        have hxs : (s.extract f i).size ≤ 1048576 := by rw [ByteArray.size_extract]; omega
        have hline : Hid (∀ W, Calls Tryd.prog 25 #[.string (s.extract f i), .int .i64 ((k : Int) + 1)] W (RLinePost (k + 1) (s.extract f i) W)) := fun W => by
          have := rline_any (k + 1) (s.extract f i) W hxs
          rwa [show ((k + 1 : Nat) : Int) = (k : Int) + 1 by omega] at this
        have HR := Lib.hid hr
        have HP2 := Lib.hid hp2
        have HX := Lib.hid hex
        have hx0 := hx
        have hnl : i < s.size → (((s.data.toList[i]?).getD 0).toNat : Int) = 10 := fun h => by
          rw [List.getElem?_eq_getElem (by rw [HLen.out]; exact h), hall (by rw [HLen.out]; exact h)]; rfl
        have htest : Hid ((i < s.size → ∃ h : i < s.size, (((s[i].toNat : Nat) : Int) == 10) = true ∧ (((s[i].toNat : Nat) : Int) != 10) = false)) := fun h => ⟨h, by
          have e : s[i] = 10 := hall (by rw [HLen.out]; exact h)
          rw [e]; exact ⟨rfl, rfl⟩⟩
        have hfz : (f : Int) ≤ (i : Int) := by omega
        have hf0 : (0 : Int) ≤ (f : Int) := by omega
        clear hc hall hr hp2 hx hex hnl
        have go : ∀ e w1, RLinePost (k + 1) (s.extract f i) wr e w1 → (∃ p : Nat, e = .returned (.tuple #[.slice none 0 0, .int .i64 p]) ∧ LinesPost s w (.returned (.tuple #[.slice none 0 0, .int .i64 ((k : Int) + 1), .int .i64 ((p : Int) + 1), .int .i64 30])) w1 ∧ p ≤ 1048576) ∨
            (∃ (ws : List Wrd) (aw : Option Addr) (cw : Nat), e = .returned (.tuple #[.slice aw ws.length cw, .int .i64 (-1)]) ∧ Wd.line (k + 1) x 0 = .ok ws ∧ RdsW (fun b => wr.heap.size ≤ b) w1 (.slice aw ws.length cw) ws ∧ Below wr.heap.size wr w1) := by
          intro e w1 h
          unfold RLinePost at h
          rw [HX.out] at h
          cases hl : Wd.line (k + 1) x 0 with
          | error p =>
            rw [hl] at h
            refine .inl ⟨p, h.1, ?_, ?_⟩
            · unfold LinesPost
              have : Wd.lines s.data.toList = .error (k + 1, p) := by
                rw [hst.out.eq rest hpos.out.sp, HR.out, ← hk.out]
                simp only [Wd.rows, hl]
                rfl
              rw [this]
              exact ⟨rfl, hst.out.bel.trans (h.2.mono hst.out.bel.size)⟩
            · have h1 := line_err (k + 1) _ _ _ _ hl
              have h2 : x.length ≤ s.size := by rw [← hx0, List.length_take, List.length_drop, HLen.out]; omega
              omega
          | ok ws =>
            rw [hl] at h
            obtain ⟨⟨aw, cw, he, ho⟩, hb⟩ := h
            exact .inr ⟨ws, aw, cw, he, rfl, ownsRow_rdsW ho, hb⟩
        have HGo := Lib.hid go
        clear go hx0
        have hcase : (i : Int) < (s.size : Int) ∧ (∃ h : i < s.size, (((s[i].toNat : Nat) : Int) == 10) = true ∧ (((s[i].toNat : Nat) : Int) != 10) = false) ∨ decide ((i : Int) < (s.size : Int)) = false ∧ ¬ i < s.size := by
          by_cases h : i < s.size
          · exact .inl ⟨by omega, htest.out h⟩
          · exact .inr ⟨by simp; omega, h⟩
        rcases hcase with ⟨hlz, hlt, ht1, ht2⟩ | ⟨hlz, hnl⟩
        all_goals
          go_wp2_with fail
          any_goals (first | refine (hline.out _).mono ?_ | (exfalso; simp only [decide_eq_false_iff_not] at hlz; omega))
          intro e w1 h1
          rcases HGo.out e w1 h1 with ⟨p, rfl, hpost, hp⟩ | ⟨ws, aw, cw, rfl, hl, hrd, hb1⟩
          · have HPo := Lib.hid hpost
            clear hpost h1
            have hp0 : (0 : Int) ≤ (p : Int) := by omega
            go_wp2_with fail
            refine bodyPost_ret (v := .tuple #[.slice none 0 0, .int .i64 ((k : Int) + 1), .int .i64 ((p : Int) + 1), .int .i64 30]) (by simp [results, go_sem]) rfl ?_
            exact HPo.out
          · have Hl := Lib.hid hl
            have HRd := Lib.hid hrd
            have HB1 := Lib.hid hb1
            clear h1 hl hrd hb1
            have hul : us.length ≤ 1048577 := by have := hst.out.len; have := hst.out.few; have := hk.out; have := hm.out; omega
            by_cases hne : ws = []
            · subst hne
              go_wp2_with fail
              go_roundw
              case rel =>
                refine ⟨i + 1, i + 1, k + 1, m, pre ++ [x], rest', acc, ad, c, us, by omega, by omega, by go_num, by go_num, by go_num, by omega, rfl, by omega, ?_, hm, HP2, ?_⟩
                · show _ = _; rw [hk.out]; simp
                · exact hst.out.same (by rw [← hk.out]; exact Hl.out) HB1.out
              case measure => simp [intOf]; omega
            · have hpos2 : (0 : Int) < (ws.length : Int) := by have := List.length_pos_iff.2 hne; omega
              have HNe := Lib.hid hne
              have HOw : Hid (w1.ownsRow w.heap.size 39 1 (.slice ad m c) m us) := by have h2 := ownsRow_below hst.out.own HB1.out; rwa [← hm.out] at h2
              have HBs : Hid (w.heap.size ≤ w1.heap.size) := Nat.le_trans hst.out.bel.size HB1.out.size
              clear hne
              go_wp2_with (at_builtin; refine wpList_append_lies _ rfl (.tmp 48) (.tmp 50) 22 rfl w.heap.size 39 i0 _ 1 24 Tryd.underlying22 hi hz0 hz1 hz2 rfl (by omega) (.slice ad m c) m us (by rfl) (HOw.out.alloc _) ⟨w1.heap.size, 0, none⟩ 1 1 [.slice aw ws.length cw] (by rfl) (by rfl) (World.news_of_block (cs := #[.slice aw ws.length cw]) (t := 39) (fr := (0, 0)) (heap_alloc_new w1 _)) (by simp [Value.oneCell']) (by omega) (by unfold maxLen; omega) (by omega) (by have := HBs.out; simp; omega) (w1.heap.size + 1) (by simp) ?_; intro gg cap w4 hown4 hgrow hat hlt4; have HO4 := Lib.hid hown4; have HG4 := Lib.hid hgrow; have HAt := Lib.hid hat; clear hown4 hgrow hat hlt4)
              go_roundw
              case rel =>
                refine ⟨i + 1, i + 1, k + 1, m + 1, pre ++ [x], rest', acc ++ [ws], some ⟨gg, 0, none⟩, cap, us ++ [.slice aw ws.length cw], by omega, by omega, by go_num, by go_num, by go_num, by omega, rfl, by omega, ?_, ?_, HP2, ?_⟩
                · show _ = _; rw [hk.out]; simp
                · show _ = _; rw [hm.out]; simp
                · refine hst.out.more (W := wr) (W2 := w1.alloc (.cells #[.slice aw ws.length cw] 39)) (by rw [← hk.out]; exact Hl.out) HNe.out (HRd.out.below ((Below.refl _ _).alloc (Nat.le_refl _) _)) (HB1.out.alloc HB1.out.size _) HG4.out ?_ (by rw [← hm.out]; exact HO4.out)
                  intro b hb
                  injection hb with hb
                  have hb : gg = b := hb
                  subst hb
                  rcases HAt.out with h | h
                  · exact .inl h
                  · exact .inr (by simp; omega)
              case measure => simp [intOf]; omega
    · have hie : i = s.size + 1 := by omega
      have hall : Wd.lines s.data.toList = .ok acc := by
        have h1 := hpos.out.gt (by rw [HLen.out]; omega)
        rw [hst.out.eq rest hpos.out.sp, h1]
        simp [Wd.rows, Except.map]
      have HPo : Hid (LinesPost s w (.returned (.tuple #[.slice ad m c, .int .i64 0, .int .i64 0, .int .i64 0])) wr) := by
        show LinesPost _ _ _ _
        unfold LinesPost
        rw [hall]
        exact ⟨_, rfl, hst.out.rds, hst.out.bel⟩
      have hxz : decide ((i : Int) ≤ (s.size : Int)) = false := by simp; omega
      clear hie hall
      go_wp2_with fail
      refine bodyPost_ret (v := .tuple #[.slice ad m c, .int .i64 0, .int .i64 0, .int .i64 0]) (by simp [results, go_sem]) rfl ?_
      exact HPo.out
end Go.Proofs.YtfnfmkejkgiclaaDoor
