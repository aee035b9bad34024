/-
  What Lines keeps between two lines.
-/
import Derived.Test.YtfnfmkejkgiclaaDoorWdD
import Derived.Test.YtfnfmkejkgiclaaDoorHeldIn
namespace Go.Proofs.YtfnfmkejkgiclaaDoor
open Go.RowKit Go.Shelf
set_option linter.unusedVariables false
set_option linter.unusedSimpArgs false

/-- u reads as words, in blocks that are ok. -/
def RdsW (ok : Nat → Prop) (w : World) (u : Value) (ws : List Wrd) : Prop :=
  ∃ ad cap, u = .slice ad ws.length cap ∧ ws.length ≤ cap ∧ cap ≤ maxLen ∧ ∀ i (h : i < ws.length), ∃ b off, ad = some ⟨b, off, none⟩ ∧ b < w.heap.size ∧ ok b ∧
    w.cell? ⟨b, off + i * 3, none⟩ = some (.string ws[i].t) ∧ w.cell? ⟨b, off + i * 3 + 1, none⟩ = some (.int .i64 ws[i].l) ∧ w.cell? ⟨b, off + i * 3 + 2, none⟩ = some (.int .i64 ws[i].c)

theorem RdsW.but {ok S : Nat → Prop} {w w' : World} {u : Value} {ws : List Wrd} (h : RdsW ok w u ws) (hb : But S w w') (hs : ∀ b, ok b → ¬ S b) : RdsW ok w' u ws := by
  obtain ⟨ad, cap, h1, h2, h3, h4⟩ := h
  refine ⟨ad, cap, h1, h2, h3, fun i hi => ?_⟩
  obtain ⟨b, off, e, hl, hk, k0, k1, k2⟩ := h4 i hi
  exact ⟨b, off, e, Nat.lt_of_lt_of_le hl hb.size, hk, (hb.cell (p := ⟨b, off + i * 3, none⟩) hl (hs b hk)).trans k0, (hb.cell (p := ⟨b, off + i * 3 + 1, none⟩) hl (hs b hk)).trans k1, (hb.cell (p := ⟨b, off + i * 3 + 2, none⟩) hl (hs b hk)).trans k2⟩
theorem RdsW.below {ok : Nat → Prop} {w w' : World} {u : Value} {ws : List Wrd} (h : RdsW ok w u ws) (hb : Below w.heap.size w w') : RdsW ok w' u ws := h.but (S := fun _ => False) (But.below hb) (fun _ _ h => h)
theorem RdsW.mono {ok ok' : Nat → Prop} {w : World} {u : Value} {ws : List Wrd} (h : RdsW ok w u ws) (hk : ∀ b, b < w.heap.size → ok b → ok' b) : RdsW ok' w u ws := by
  obtain ⟨ad, cap, h1, h2, h3, h4⟩ := h
  refine ⟨ad, cap, h1, h2, h3, fun i hi => ?_⟩
  obtain ⟨b, off, e, hl, hk', k⟩ := h4 i hi
  exact ⟨b, off, e, hl, hk b hl hk', k⟩

theorem cellsW_get : ∀ (l : List Wrd) (i : Nat) (h : i < l.length), (cellsW l)[i * 3]? = some (.string l[i].t) ∧ (cellsW l)[i * 3 + 1]? = some (.int .i64 l[i].l) ∧ (cellsW l)[i * 3 + 2]? = some (.int .i64 l[i].c)
  | [], i, h => absurd h (Nat.not_lt_zero i)
  | x :: l, 0, _ => by simp [cellsW, encW]
  | x :: l, i + 1, h => by
    have := cellsW_get l i (by simpa using h)
    have e : cellsW (x :: l) = encW x ++ cellsW l := by simp [cellsW]
    rw [e, show (i + 1) * 3 = i * 3 + 3 by omega]
    simpa [encW] using this

theorem ownsRow_rdsW {w : World} {base : Nat} {v : Value} {ws : List Wrd} (h : w.ownsRow base 41 3 v ws.length (cellsW ws)) : RdsW (fun b => base ≤ b) w v ws := by
  obtain ⟨h1, h2⟩ := h
  rcases h2 with ⟨h2, h5⟩ | ⟨g, cap, cur, hv, hg, hh, hn, hc, hs, ht⟩
  · exact ⟨none, 0, by rw [h2, h5], by omega, Nat.zero_le _, fun i hi => by omega⟩
  · refine ⟨_, cap, hv, hn, hc, fun i hi => ?_⟩
    have key : ∀ j u, j < ws.length * 3 → (cellsW ws)[j]? = some u → w.cell? ⟨g, 0 + j, none⟩ = some u := fun j u hj hu => by
      rw [← ht, List.getElem?_take_of_lt (by omega)] at hu
      simp only [World.cell?, hh, Nat.zero_add]
      simpa using hu
    have h6 := cellsW_get ws i hi
    exact ⟨g, 0, rfl, (Array.getElem?_eq_some_iff.1 hh).1, hg, key _ _ (by omega) h6.1, key _ _ (by omega) h6.2.1, key _ _ (by omega) h6.2.2⟩

/-- v reads as lines of words, in blocks that are ok. -/
def RdsLn (ok : Nat → Prop) (w : World) (v : Value) (acc : List (List Wrd)) : Prop :=
  ∃ us : List Value, us.length = acc.length ∧ Rds w v us ∧ (∀ a n c, v = .slice (some a) n c → n ≠ 0 → ok a.block) ∧ ∀ i (h : i < us.length) (h' : i < acc.length), RdsW ok w us[i] acc[i]

theorem RdsLn.mono {ok ok' : Nat → Prop} {w : World} {v : Value} {acc : List (List Wrd)} (h : RdsLn ok w v acc) (hk : ∀ b, ok b → ok' b) : RdsLn ok' w v acc := by
  obtain ⟨us, h1, h2, h3, h4⟩ := h
  exact ⟨us, h1, h2, fun a n c e hn => hk _ (h3 a n c e hn), fun i h h' => (h4 i h h').mono fun b _ => hk b⟩
theorem RdsLn.but {ok S : Nat → Prop} {w w' : World} {v : Value} {acc : List (List Wrd)} (h : RdsLn ok w v acc) (hb : But S w w') (hs : ∀ b, ok b → ¬ S b) : RdsLn ok w' v acc := by
  obtain ⟨us, h1, h2, h3, h4⟩ := h
  exact ⟨us, h1, Rds.but h2 hb (fun a n c e hn => hs _ (h3 a n c e hn)), h3, fun i h h' => (h4 i h h').but hb hs⟩
theorem RdsLn.below {ok : Nat → Prop} {w w' : World} {v : Value} {acc : List (List Wrd)} (h : RdsLn ok w v acc) (hb : Below w.heap.size w w') : RdsLn ok w' v acc := h.but (S := fun _ => False) (But.below hb) (fun _ _ h => h)

/-- Between two lines: pre are those that have come, acc their words. -/
structure LnSt (N : Nat) (w : World) (s : ByteArray) (rec : Loop) (pre : List (List UInt8)) (acc : List (List Wrd)) (v : Value) (us : List Value) (W : World) : Prop where
  z0 : W.heap[N]? = some (.cells #[.slice none 0 0] 22 (0, 0))
  z1 : W.heap[N + 1]? = some (.cells #[.int .i64 0] 3 (0, 0))
  z2 : W.heap[N + 2]? = some (.cells #[.int .i64 0] 3 (0, 0))
  z3 : W.heap[N + 3]? = some (.cells #[.int .i64 0] 23 (0, 0))
  nb : W.heap[N + 4]? = some (.cells #[.int .i64 pre.length] 3 (0, 0))
  rw : W.heap[N + 5]? = some (.cells #[v] 22 (0, 0))
  df : W.heap[N + 9]? = some (.deferred (some []))
  lp : W.heap[N + 10]? = some (.loop rec)
  own : W.ownsRow (N + 11) 39 1 v us.length us
  len : us.length = acc.length
  rd : ∀ i (h : i < us.length) (h' : i < acc.length), RdsW (fun b => N + 11 ≤ b ∧ v.ownBlock ≠ some b) W us[i] acc[i]
  blw : Below N w W
  eq : ∀ rest, Wd.split s.data.toList = pre ++ rest → Wd.lines s.data.toList = (Wd.rows rest (pre.length + 1)).map (acc ++ ·)
  few : acc.length ≤ pre.length

theorem LnSt.size {N : Nat} {w : World} {s : ByteArray} {rec : Loop} {pre : List (List UInt8)} {acc : List (List Wrd)} {v : Value} {us : List Value} {W : World} (h : LnSt N w s rec pre acc v us W) : N + 11 ≤ W.heap.size := by
  have := (Array.getElem?_eq_some_iff.1 h.lp).1
  omega

theorem LnSt.set {N : Nat} {w : World} {s : ByteArray} {rec : Loop} {pre : List (List UInt8)} {acc : List (List Wrd)} {v : Value} {us : List Value} {W : World} (h : LnSt N w s rec pre acc v us W) (u : ByteArray) : LnSt N w s rec pre acc v us (W.setCell ⟨N + 6, 0, none⟩ (.string u)) := by
  have f : ∀ k, k ≠ N + 6 → (W.setCell ⟨N + 6, 0, none⟩ (.string u)).heap[k]? = W.heap[k]? := fun k hk => far_set _ hk
  exact ⟨(f _ (by omega)).trans h.z0, (f _ (by omega)).trans h.z1, (f _ (by omega)).trans h.z2, (f _ (by omega)).trans h.z3, (f _ (by omega)).trans h.nb, (f _ (by omega)).trans h.rw, (f _ (by omega)).trans h.df, (f _ (by omega)).trans h.lp,
    ownsRow_setCell_below h.own (by show N + 6 < N + 11; omega) _, h.len, fun i h1 h2 => (h.rd i h1 h2).but (S := fun k => k = N + 6) (But.set (S := fun k => k = N + 6) (a := ⟨N + 6, 0, none⟩) rfl _) (fun b hb e => by have := hb.1; omega), h.blw.setCell (p := ⟨N + 6, 0, none⟩) (by show N ≤ N + 6; omega) _, h.eq, h.few⟩

/-- What Lines leaves where a line is at fault. -/
structure LnBad (N : Nat) (w : World) (s : ByteArray) (num col : Nat) (W : World) : Prop where
  z0 : W.heap[N]? = some (.cells #[.slice none 0 0] 22 (0, 0))
  z1 : W.heap[N + 1]? = some (.cells #[.int .i64 0] 3 (0, 0))
  z2 : W.heap[N + 2]? = some (.cells #[.int .i64 0] 3 (0, 0))
  z3 : W.heap[N + 3]? = some (.cells #[.int .i64 0] 23 (0, 0))
  df : W.heap[N + 9]? = some (.deferred (some []))
  blw : Below N w W
  eq : Wd.lines s.data.toList = .error (num, col)
  sz : N + 11 ≤ W.heap.size

/-- A line that is at fault. -/
theorem LnSt.bad {N : Nat} {w : World} {s : ByteArray} {rec : Loop} {pre : List (List UInt8)} {acc : List (List Wrd)} {v : Value} {us : List Value} {W W' : World} (h : LnSt N w s rec pre acc v us W) {x : List UInt8} {rest : List (List UInt8)} (hs : Wd.split s.data.toList = pre ++ x :: rest) {p : Nat} (hp : Wd.line (pre.length + 1) x 0 = .error p)
    (hb : But (fun k => k = N + 4 ∨ k = N + 10) W W') : LnBad N w s (pre.length + 1) p W' := by
  have hsz := h.size
  have f : ∀ k, k < N + 11 → ¬ (k = N + 4 ∨ k = N + 10) → W'.heap[k]? = W.heap[k]? := fun k h1 h2 => hb.block k (by omega) h2
  refine ⟨(f _ (by omega) (by omega)).trans h.z0, (f _ (by omega) (by omega)).trans h.z1, (f _ (by omega) (by omega)).trans h.z2, (f _ (by omega) (by omega)).trans h.z3, (f _ (by omega) (by omega)).trans h.df, h.blw.trans (hb.toBelow (by omega) (fun k hk => by omega)), ?_, Nat.le_trans hsz hb.size⟩
  rw [h.eq _ hs]
  simp only [Wd.rows, hp]
  rfl

/-- A line without a word. -/
theorem LnSt.same {N : Nat} {w : World} {s : ByteArray} {rec rec' : Loop} {pre : List (List UInt8)} {acc : List (List Wrd)} {v : Value} {us : List Value} {W W' : World} (h : LnSt N w s rec pre acc v us W) {x : List UInt8} (hp : Wd.line (pre.length + 1) x 0 = .ok [])
    (hn : W'.heap[N + 4]? = some (.cells #[.int .i64 ((pre.length : Int) + 1)] 3 (0, 0))) (hl : W'.heap[N + 10]? = some (.loop rec')) (hb : But (fun k => k = N + 4 ∨ k = N + 10) W W') : LnSt N w s rec' (pre ++ [x]) acc v us W' := by
  have hsz := h.size
  have f : ∀ k, k < N + 11 → ¬ (k = N + 4 ∨ k = N + 10) → W'.heap[k]? = W.heap[k]? := fun k h1 h2 => hb.block k (by omega) h2
  refine ⟨(f _ (by omega) (by omega)).trans h.z0, (f _ (by omega) (by omega)).trans h.z1, (f _ (by omega) (by omega)).trans h.z2, (f _ (by omega) (by omega)).trans h.z3, by rw [hn]; simp, (f _ (by omega) (by omega)).trans h.rw, (f _ (by omega) (by omega)).trans h.df, hl, ?_, h.len, fun i h1 h2 => (h.rd i h1 h2).but hb (fun b hb e => by have := hb.1; omega), h.blw.trans (hb.toBelow (by omega) (fun k hk => by omega)), fun rest hs => ?_, by have := h.few; simp; omega⟩
  · obtain ⟨h1, h2⟩ := h.own
    refine ⟨h1, h2.imp id ?_⟩
    rintro ⟨g, cap, cur, hv, hg, hh, r⟩
    exact ⟨g, cap, cur, hv, hg, (hb.block g ((Array.getElem?_eq_some_iff.1 hh).1) (by omega)).trans hh, r⟩
  · rw [h.eq (x :: rest) (by rw [hs]; simp)]
    simp only [Wd.rows, hp]
    rw [List.length_append, List.length_singleton]
    cases Wd.rows rest (pre.length + 1 + 1) <;> rfl

/-- A line of words: W2 is the world in which its row is laid; W3 behind the append. -/
theorem LnSt.more {N : Nat} {w : World} {s : ByteArray} {rec rec' : Loop} {pre : List (List UInt8)} {acc : List (List Wrd)} {v : Value} {us : List Value} {W W2 W3 W' : World} (h : LnSt N w s rec pre acc v us W) {x : List UInt8} {ws : List Wrd} (hp : Wd.line (pre.length + 1) x 0 = .ok ws) (hne : ws ≠ [])
    {u v' : Value} (hw : RdsW (fun b => W.heap.size ≤ b) W2 u ws) (hb2 : But (fun k => k = N + 4 ∨ k = N + 10) W W2) (hg : W2.grownBy W3 v.ownBlock) (hv' : ∀ b, v'.ownBlock = some b → v.ownBlock = some b ∨ W2.heap.size ≤ b)
    (ho : W3.ownsRow (N + 11) 39 1 v' (us.length + 1) (us ++ [u])) (hb3 : But (fun k => k = N + 5 ∨ k = N + 10) W3 W')
    (hr : W'.heap[N + 5]? = some (.cells #[v'] 22 (0, 0))) (hn : W2.heap[N + 4]? = some (.cells #[.int .i64 ((pre.length : Int) + 1)] 3 (0, 0))) (hl : W'.heap[N + 10]? = some (.loop rec')) : LnSt N w s rec' (pre ++ [x]) (acc ++ [ws]) v' (us ++ [u]) W' := by
  have hsz := h.size
  have hvo : ∀ b, v.ownBlock = some b → N + 11 ≤ b ∧ b < W.heap.size := fun b e => by
    rcases h.own.2 with ⟨h1, _⟩ | ⟨g, cap, cur, hv, hg, hh, _⟩
    · rw [h1] at e; cases e
    · rw [hv] at e; injection e with e; subst e; exact ⟨hg, (Array.getElem?_eq_some_iff.1 hh).1⟩
  have hbut : But (fun k => v.ownBlock = some k) W2 W3 := ⟨hg.os, hg.tape, hg.output, hg.size, fun k hk hn => hg.block k hk (fun e => hn e.symm)⟩
  have s2 := hb2.size
  have s3 := hg.size
  have s4 := hb3.size
  have f : ∀ k, k < N + 11 → ¬ (k = N + 4 ∨ k = N + 10 ∨ k = N + 5) → W'.heap[k]? = W.heap[k]? := fun k h1 h2 => by
    rw [hb3.block k (by omega) (by omega), hbut.block k (by omega) (fun e => by have := (hvo k e).1; omega), hb2.block k (by omega) (by omega)]
  have hn' : W'.heap[N + 4]? = _ := (hb3.block (N + 4) (by omega) (by omega)).trans ((hbut.block (N + 4) (by omega) (fun e => by have := (hvo _ e).1; omega)).trans hn)
  have hokA : ∀ b, N + 11 ≤ b ∧ v.ownBlock ≠ some b → b < W.heap.size → N + 11 ≤ b ∧ v'.ownBlock ≠ some b := fun b hb hlt => ⟨hb.1, fun e => by rcases hv' b e with h1 | h1; exact hb.2 h1; omega⟩
  refine ⟨(f _ (by omega) (by omega)).trans h.z0, (f _ (by omega) (by omega)).trans h.z1, (f _ (by omega) (by omega)).trans h.z2, (f _ (by omega) (by omega)).trans h.z3, by rw [hn']; simp, hr, (f _ (by omega) (by omega)).trans h.df, hl, ?_, by simp [h.len], ?_, ?_, fun rest hs => ?_, by have := h.few; simp; omega⟩
  · obtain ⟨h1, h2⟩ := ho
    rw [List.length_append, List.length_singleton]
    refine ⟨h1, h2.imp id ?_⟩
    rintro ⟨g, cap, cur, hv, hg, hh, r⟩
    exact ⟨g, cap, cur, hv, hg, (hb3.block g ((Array.getElem?_eq_some_iff.1 hh).1) (by omega)).trans hh, r⟩
  · intro i h1 h2
    by_cases hi : i < us.length
    · have e1 : (us ++ [u])[i] = us[i] := List.getElem_append_left hi
      have e2 : (acc ++ [ws])[i] = acc[i]'(by have := h.len; omega) := List.getElem_append_left _
      rw [e1, e2]
      have r0 := h.rd i hi (by have := h.len; omega)
      have r1 := r0.mono (ok' := fun b => (N + 11 ≤ b ∧ v.ownBlock ≠ some b) ∧ b < W.heap.size) (fun b hlt hb => ⟨hb, hlt⟩)
      have r2 := r1.but hb2 (fun b hb e => by have := hb.1.1; omega)
      have r3 := r2.but hbut (fun b hb e => hb.1.2 e)
      have r4 := r3.but hb3 (fun b hb e => by have := hb.1.1; omega)
      exact r4.mono (fun b _ hb => hokA b hb.1 hb.2)
    · have hi2 : i = us.length := by simp at h1; omega
      subst hi2
      have e1 : (us ++ [u])[us.length] = u := by simp
      have e2 : (acc ++ [ws])[us.length] = ws := by simp [h.len]
      rw [e1, e2]
      have r1 := hw.mono (ok' := fun b => W.heap.size ≤ b ∧ b < W2.heap.size) (fun b hlt hb => ⟨hb, hlt⟩)
      have r3 := r1.but hbut (fun b hb e => by have := (hvo b e).2; omega)
      have r4 := r3.but hb3 (fun b hb e => by omega)
      refine r4.mono (fun b _ hb => ⟨by omega, fun e => ?_⟩)
      rcases hv' b e with h1 | h1
      · have := (hvo b h1).2; omega
      · omega
  · exact ((h.blw.trans (hb2.toBelow (by omega) (fun k hk => by omega))).trans (hbut.toBelow (by omega) (fun k hk => by have := (hvo k hk).1; omega))).trans (hb3.toBelow (by omega) (fun k hk => by omega))
  · rw [h.eq (x :: rest) (by rw [hs]; simp)]
    simp only [Wd.rows, hp]
    rw [List.length_append, List.length_singleton]
    have he : ws.isEmpty = false := by cases ws with | nil => exact absurd rfl hne | cons a l => rfl
    rw [he]
    cases Wd.rows rest (pre.length + 1 + 1) <;> simp [Except.map]

/-- All lines have come. -/
theorem LnSt.all {N : Nat} {w : World} {s : ByteArray} {rec : Loop} {acc : List (List Wrd)} {v : Value} {us : List Value} {W : World} (h : LnSt N w s rec (Wd.split s.data.toList) acc v us W) : Wd.lines s.data.toList = .ok acc := by
  rw [h.eq [] (by simp)]
  simp [Wd.rows, Except.map]

theorem LnSt.rds {N : Nat} {w : World} {s : ByteArray} {rec : Loop} {pre : List (List UInt8)} {acc : List (List Wrd)} {v : Value} {us : List Value} {W : World} (h : LnSt N w s rec pre acc v us W) : RdsLn (fun b => N + 11 ≤ b) W v acc := by
  refine ⟨us, h.len, ownsRow_rds h.own, fun a n c e hn => ?_, fun i h1 h2 => (h.rd i h1 h2).mono fun b _ hb => hb.1⟩
  rcases h.own.2 with ⟨h1, h2⟩ | ⟨g, cap, cur, hv, hg, hh, _⟩
  · rw [h1] at e; cases e
  · rw [hv] at e; injection e with e _ _; injection e with e; subst e; exact hg
end Go.Proofs.YtfnfmkejkgiclaaDoor
