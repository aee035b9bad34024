/-
  Walks over the reference of words: line.
-/
import Derived.Test.YtbjkbcbclgfmpaaDoorRgE
import Derived.OwnWalk
import Derived.Deep.AppendLies
namespace Go.Proofs.YtbjkbcbclgfmpaaDoor
open Go.RowKit
set_option linter.unusedVariables false
set_option linter.unusedSimpArgs false

/-- What the reference's line tells. -/
def RLinePost (num : Nat) (s : ByteArray) (w : World) (e : Ending) (w' : World) : Prop :=
  (match Wd.line num s.data.toList 0 with
  | .ok ws => ∃ ad c, e = .returned (.tuple #[.slice ad ws.length c, .int .i64 (-1)]) ∧ w'.ownsRow w.heap.size 86 3 (.slice ad ws.length c) ws.length (cellsW ws)
  | .error p => e = .returned (.tuple #[.slice none 0 0, .int .i64 p])) ∧ Below w.heap.size w w'

/-- What the reader has come to. -/
structure RLn (num : Nat) (s : ByteArray) (w : World) (x : Nat) (pre : List Wrd) (ad : Option Addr) (c : Nat) (wr : World) : Prop where
  own : wr.ownsRow w.heap.size 86 3 (.slice ad pre.length c) pre.length (cellsW pre)
  few : pre.length ≤ x
  eq : Wd.line num s.data.toList 0 = (Wd.line num (s.data.toList.drop x) x).map (pre ++ ·)
  bel : Below w.heap.size w wr

theorem RLn.done {num : Nat} {s : ByteArray} {w : World} {x : Nat} {pre : List Wrd} {ad : Option Addr} {c : Nat} {wr : World} (h : RLn num s w x pre ad c wr) (hl : Wd.line num (s.data.toList.drop x) x = .ok []) : RLinePost num s w (.returned (.tuple #[.slice ad pre.length c, .int .i64 (-1)])) wr := by
  unfold RLinePost
  rw [h.eq, hl]
  simp only [Except.map, List.append_nil]
  exact ⟨⟨ad, c, rfl, h.own⟩, h.bel⟩
theorem RLn.bad {num : Nat} {s : ByteArray} {w : World} {x : Nat} {pre : List Wrd} {ad : Option Addr} {c : Nat} {wr : World} (h : RLn num s w x pre ad c wr) (hl : Wd.line num (s.data.toList.drop x) x = .error x) : RLinePost num s w (.returned (.tuple #[.slice none 0 0, .int .i64 x])) wr := by
  unfold RLinePost
  rw [h.eq, hl]
  simp only [Except.map]
  exact ⟨by first | rfl | trivial, h.bel⟩

theorem RLn.blank {num : Nat} {s : ByteArray} {w : World} {x : Nat} {pre : List Wrd} {ad : Option Addr} {c : Nat} {wr : World} (h : RLn num s w x pre ad c wr) (hx : x < s.size) (hc : s[x] = 32 ∨ s[x] = 9) : RLn num s w (x + 1) pre ad c wr := by
  have hd : s.data.toList.drop x = s[x] :: s.data.toList.drop (x + 1) := by
    rw [List.drop_eq_getElem_cons (by simpa using hx)]; rfl
  exact ⟨h.own, by have := h.few; omega, by rw [h.eq, hd, Wd.line_blank _ _ _ _ hc], h.bel⟩

theorem RLn.word {num : Nat} {s : ByteArray} {w : World} {x : Nat} {pre : List Wrd} {ad : Option Addr} {c : Nat} {wr W1 : World} (h : RLn num s w x pre ad c wr) {n : Nat} (hn : Wd.size (s.data.toList.drop x) = n) (hx : x < s.size) (h35 : ¬ s[x] = 35) (hb : ¬ (s[x] = 32 ∨ s[x] = 9)) (hn0 : n ≠ 0)
    (hg : (wr.alloc (.cells #[.string (s.extract x (x + n)), .int .i64 num, .int .i64 ((x : Int) + 1)] 86)).grownBy W1 (Value.slice ad pre.length c).ownBlock) {v' : Value}
    (ho : W1.ownsRow w.heap.size 86 3 v' (pre.length + 1) (cellsW pre ++ [.string (s.extract x (x + n)), .int .i64 num, .int .i64 ((x : Int) + 1)])) :
    ∃ ad' c', v' = .slice ad' (pre.length + 1) c' ∧ RLn num s w (x + n) (pre ++ [⟨s.extract x (x + n), num, x + 1⟩]) ad' c' W1 := by
  obtain ⟨ad', c', rfl, _⟩ := ownsRow_slice ho
  have hd : s.data.toList.drop x = s[x] :: s.data.toList.drop (x + 1) := by
    rw [List.drop_eq_getElem_cons (by simpa using hx)]; rfl
  refine ⟨ad', c', rfl, ?_, ?_, ?_, own_step (h.bel.alloc h.bel.size _) (h.own.alloc _) hg⟩
  · rw [List.length_append, List.length_singleton, cellsW_append, cellsW_one]; exact ho
  · rw [List.length_append, List.length_singleton]; have := h.few; omega
  · have hw := Wd.line_word num x s[x] (s.data.toList.drop (x + 1)) h35 hb (by rw [← hd, hn]; exact hn0)
    rw [← hd, hn, List.drop_drop] at hw
    rw [h.eq, hw]
    have hmk : Wd.mkB ((s.data.toList.drop x).take n) = s.extract x (x + n) := by
      rw [← Wd.mkB_of (s.extract x (x + n)), Lib.extract_data, show x + n - x = n by omega]
    rw [hmk]
    cases Wd.line num (s.data.toList.drop (x + n)) (x + n) <;> simp [Except.map]

end Go.Proofs.YtbjkbcbclgfmpaaDoor
/-
  Walks over the reference of words: Lines.
-/
namespace Go.Proofs.YtbjkbcbclgfmpaaDoor
open Go.RowKit
set_option linter.unusedVariables false
set_option linter.unusedSimpArgs false

/-- The reference between two lines. -/
structure RLs (w : World) (s : ByteArray) (pre : List (List UInt8)) (acc : List (List Wrd)) (v : Value) (us : List Value) (W : World) : Prop where
  own : W.ownsRow w.heap.size 61 1 v us.length us
  len : us.length = acc.length
  rd : ∀ i (h : i < us.length) (h' : i < acc.length), RdsW (fun b => w.heap.size ≤ b ∧ v.ownBlock ≠ some b) W us[i] acc[i]
  bel : Below w.heap.size w W
  eq : ∀ rest, Wd.split s.data.toList = pre ++ rest → Wd.lines s.data.toList = (Wd.rows rest (pre.length + 1)).map (acc ++ ·)
  few : acc.length ≤ pre.length

theorem RLs.same {w : World} {s : ByteArray} {pre : List (List UInt8)} {acc : List (List Wrd)} {v : Value} {us : List Value} {W W' : World} (h : RLs w s pre acc v us W) {x : List UInt8} (hp : Wd.line (pre.length + 1) x 0 = .ok []) (hb : Below W.heap.size W W') : RLs w s (pre ++ [x]) acc v us W' := by
  refine ⟨ownsRow_below h.own hb, h.len, fun i h1 h2 => (h.rd i h1 h2).below hb, h.bel.trans (hb.mono h.bel.size), fun rest hs => ?_, by have := h.few; simp; omega⟩
  rw [h.eq (x :: rest) (by rw [hs]; simp)]
  simp only [Wd.rows, hp]
  rw [List.length_append, List.length_singleton]
  cases Wd.rows rest (pre.length + 1 + 1) <;> rfl

theorem RLs.more {w : World} {s : ByteArray} {pre : List (List UInt8)} {acc : List (List Wrd)} {v : Value} {us : List Value} {W W2 W3 : World} (h : RLs w s pre acc v us W) {x : List UInt8} {ws : List Wrd} (hp : Wd.line (pre.length + 1) x 0 = .ok ws) (hne : ws ≠ [])
    {u v' : Value} (hw : RdsW (fun b => W.heap.size ≤ b) W2 u ws) (hb2 : Below W.heap.size W W2) (hg : W2.grownBy W3 v.ownBlock) (hv' : ∀ b, v'.ownBlock = some b → v.ownBlock = some b ∨ W2.heap.size ≤ b)
    (ho : W3.ownsRow w.heap.size 61 1 v' (us.length + 1) (us ++ [u])) : RLs w s (pre ++ [x]) (acc ++ [ws]) v' (us ++ [u]) W3 := by
  have hvo : ∀ b, v.ownBlock = some b → w.heap.size ≤ b ∧ b < W.heap.size := fun b e => by
    rcases h.own.2 with ⟨h1, _⟩ | ⟨g, cap, cur, hv, hg, hh, _⟩
    · rw [h1] at e; cases e
    · rw [hv] at e; injection e with e; subst e; exact ⟨hg, (Array.getElem?_eq_some_iff.1 hh).1⟩
  have hbut : But (fun k => v.ownBlock = some k) W2 W3 := ⟨hg.os, hg.tape, hg.output, hg.size, fun k hk hn => hg.block k hk (fun e => hn e.symm)⟩
  have s2 := hb2.size
  have hokA : ∀ b, w.heap.size ≤ b ∧ v.ownBlock ≠ some b → b < W.heap.size → w.heap.size ≤ b ∧ v'.ownBlock ≠ some b := fun b hb hlt => ⟨hb.1, fun e => by rcases hv' b e with h1 | h1; exact hb.2 h1; omega⟩
  refine ⟨by rw [List.length_append, List.length_singleton]; exact ho, by simp [h.len], ?_, own_step (h.bel.trans (hb2.mono h.bel.size)) (ownsRow_below h.own hb2) hg, fun rest hs => ?_, by have := h.few; simp; omega⟩
  · intro i h1 h2
    by_cases hi : i < us.length
    · have e1 : (us ++ [u])[i] = us[i] := List.getElem_append_left hi
      have e2 : (acc ++ [ws])[i] = acc[i]'(by have := h.len; omega) := List.getElem_append_left _
      rw [e1, e2]
      have r0 := h.rd i hi (by have := h.len; omega)
      have r1 := r0.mono (ok' := fun b => (w.heap.size ≤ b ∧ v.ownBlock ≠ some b) ∧ b < W.heap.size) (fun b hlt hb => ⟨hb, hlt⟩)
      have r2 := r1.below hb2
      have r3 := r2.but hbut (fun b hb e => hb.1.2 e)
      exact r3.mono (fun b _ hb => hokA b hb.1 hb.2)
    · have hi2 : i = us.length := by simp at h1; omega
      subst hi2
      have e1 : (us ++ [u])[us.length] = u := by simp
      have e2 : (acc ++ [ws])[us.length] = ws := by simp [h.len]
      rw [e1, e2]
      have r1 := hw.mono (ok' := fun b => W.heap.size ≤ b ∧ b < W2.heap.size) (fun b hlt hb => ⟨hb, hlt⟩)
      have r3 := r1.but hbut (fun b hb e => by have := (hvo b e).2; omega)
      refine r3.mono (fun b _ hb => ⟨by have := h.bel.size; omega, fun e => ?_⟩)
      rcases hv' b e with h1 | h1
      · have := (hvo b h1).2; omega
      · omega
  · rw [h.eq (x :: rest) (by rw [hs]; simp)]
    simp only [Wd.rows, hp]
    rw [List.length_append, List.length_singleton]
    have he : ws.isEmpty = false := by cases ws with | nil => exact absurd rfl hne | cons a l => rfl
    rw [he]
    cases Wd.rows rest (pre.length + 1 + 1) <;> simp [Except.map]

theorem RLs.rds {w : World} {s : ByteArray} {pre : List (List UInt8)} {acc : List (List Wrd)} {v : Value} {us : List Value} {W : World} (h : RLs w s pre acc v us W) : RdsLn (fun b => w.heap.size ≤ b) W v acc := by
  refine ⟨us, h.len, ownsRow_rds h.own, fun a n c e hn => ?_, fun i h1 h2 => (h.rd i h1 h2).mono fun b _ hb => hb.1⟩
  rcases h.own.2 with ⟨h1, h2⟩ | ⟨g, cap, cur, hv, hg, hh, _⟩
  · rw [h1] at e; cases e
  · rw [hv] at e; injection e with e _ _; injection e with e; subst e; exact hg

/-- The place in the text: f is where the line begins, i where the reader is. -/
structure RPos (L : List UInt8) (f i : Nat) (pre rest : List (List UInt8)) : Prop where
  sp : Wd.split L = pre ++ rest
  le : i ≤ L.length → f ≤ i ∧ rest = Wd.split (L.drop f) ∧ (10 : UInt8) ∉ (L.drop f).take (i - f)
  gt : L.length < i → rest = []

theorem RPos.byte {L : List UInt8} {f i : Nat} {pre rest : List (List UInt8)} (h : RPos L f i pre rest) (hi : i < L.length) (hc : ¬ L[i] = 10) : RPos L f (i + 1) pre rest := by
  obtain ⟨h1, h2, h3⟩ := h.le (by omega)
  refine ⟨h.sp, fun hl => ⟨by omega, h2, ?_⟩, fun hl => by omega⟩
  rw [show i + 1 - f = (i - f) + 1 by omega, List.take_succ_eq_append_getElem (by rw [List.length_drop]; omega)]
  intro hm
  rcases List.mem_append.1 hm with hm | hm
  · exact h3 hm
  · have : (L.drop f)[i - f]'(by rw [List.length_drop]; omega) = L[i] := by rw [List.getElem_drop]; congr 1; omega
    rw [List.mem_singleton, this] at hm
    exact hc hm.symm

/-- A line ends here. -/
theorem RPos.line {L : List UInt8} {f i : Nat} {pre rest : List (List UInt8)} (h : RPos L f i pre rest) (hi : i ≤ L.length) (hc : ∀ h : i < L.length, L[i] = 10) :
    ∃ rest', rest = (L.drop f).take (i - f) :: rest' ∧ RPos L (i + 1) (i + 1) (pre ++ [(L.drop f).take (i - f)]) rest' := by
  obtain ⟨h1, h2, h3⟩ := h.le hi
  by_cases hl : i < L.length
  · have hd : L.drop f = (L.drop f).take (i - f) ++ 10 :: L.drop (i + 1) := by
      have e1 : L.drop i = 10 :: L.drop (i + 1) := by rw [List.drop_eq_getElem_cons hl, hc hl]
      rw [← e1]
      have : L.drop i = (L.drop f).drop (i - f) := by rw [List.drop_drop]; congr 1; omega
      rw [this, List.take_append_drop]
    have hs : Wd.split (L.drop f) = (L.drop f).take (i - f) :: Wd.split (L.drop (i + 1)) := by
      have := Wd.split_some ((L.drop f).take (i - f)) (L.drop (i + 1)) h3
      rw [← hd] at this
      exact this
    refine ⟨Wd.split (L.drop (i + 1)), by rw [h2, hs], ?_, fun hl2 => ⟨Nat.le_refl _, rfl, by simp⟩, fun hl2 => by omega⟩
    rw [h.sp, h2, hs]; simp
  · have hie : i = L.length := by omega
    have ht : (L.drop f).take (i - f) = L.drop f := List.take_of_length_le (by rw [List.length_drop]; omega)
    rw [ht] at h3 ⊢
    have hs : Wd.split (L.drop f) = [L.drop f] := Wd.split_none _ h3
    refine ⟨[], by rw [h2, hs], ?_, fun hl2 => by omega, fun _ => rfl⟩
    rw [h.sp, h2, hs]; simp

theorem line_err (num : Nat) : ∀ (f : Nat) (l : List UInt8) (at_ p : Nat), Wd.lineF num f l at_ = .error p → p ≤ at_ + l.length := by
  intro f
  induction f with
  | zero => intro l at_ p h; simp [Wd.lineF] at h
  | succ f ih =>
    intro l at_ p h
    cases l with
    | nil => simp [Wd.lineF] at h
    | cons c t =>
      simp only [Wd.lineF] at h
      split at h
      · cases h
      · split at h
        · have := ih _ _ _ h
          simp; omega
        · split at h
          · injection h with h
            omega
          · cases hr : Wd.lineF num f ((c :: t).drop (Wd.size (c :: t))) (at_ + Wd.size (c :: t)) with
            | ok ws => rw [hr] at h; cases h
            | error q =>
              rw [hr] at h
              injection h with h
              have h1 := ih _ _ _ hr
              have h2 := Wd.size_le (c :: t) (by simp)
              rw [List.length_drop] at h1
              omega

end Go.Proofs.YtbjkbcbclgfmpaaDoor
/-
  Walks over the laws of words: cut, alive.
-/
namespace Go.Proofs.YtbjkbcbclgfmpaaDoor
open Go.RowKit Go.Shelf
set_option linter.unusedVariables false
set_option linter.unusedSimpArgs false

def cutB (s : ByteArray) : ByteArray := if 4000 < s.size then s.extract 0 4000 else s
theorem cutB_size (s : ByteArray) : (cutB s).size ≤ 4000 := by
  unfold cutB
  split
  · rw [ByteArray.size_extract]; omega
  · omega

def aliveT : ByteArray := ⟨#[97, 45, 62, 98, 32, 60, 61, 50]⟩
def aliveW : List Wrd := [⟨⟨#[97]⟩, 1, 1⟩, ⟨⟨#[45, 62]⟩, 1, 2⟩, ⟨⟨#[98]⟩, 1, 4⟩, ⟨⟨#[60, 61]⟩, 1, 6⟩, ⟨⟨#[50]⟩, 1, 8⟩]
theorem alive_lines : Wd.lines aliveT.data.toList = .ok [aliveW] := by kernel_rfl
theorem alive_say : Wd.say ([(⟨#[97]⟩ : ByteArray), ⟨#[98]⟩, ⟨#[45, 62]⟩].map fun x => x.data.toList) = some [97, 32, 98, 45, 62] := by kernel_rfl

theorem alive_say_any (v : Value) (w : World) (hr : RdsS w v [(⟨#[97]⟩ : ByteArray), ⟨#[98]⟩, ⟨#[45, 62]⟩]) :
    Calls Tryd.prog 22 #[v] w fun e w' => e = .returned (.tuple #[.string ⟨#[97, 32, 98, 45, 62]⟩, .int .i64 0]) ∧ Below w.heap.size w w' :=
  (say_any v _ w hr (by decide) (by decide)).mono fun e w' h => by
    unfold SayPost at h
    rw [alive_say] at h
    exact h

end Go.Proofs.YtbjkbcbclgfmpaaDoor
/-
  Walks over the reference of words: Same.
-/
namespace Go.Proofs.YtbjkbcbclgfmpaaDoor
open Go.RowKit Go.Shelf
set_option linter.unusedVariables false
set_option linter.unusedSimpArgs false

/-- What is told at a place of lines. -/
def LnAt (W : World) (ad : Option Addr) (acc : List (List Wrd)) : Prop :=
  ∀ i (h : i < acc.length), ∃ b off adw capw, ad = some ⟨b, off, none⟩ ∧ b < W.heap.size ∧ W.cell? ⟨b, off + i, none⟩ = some (.slice adw acc[i].length capw) ∧ RdsW (fun _ => True) W (.slice adw acc[i].length capw) acc[i]

theorem rdsLn_at {ok : Nat → Prop} {w : World} {v : Value} {acc : List (List Wrd)} (h : RdsLn ok w v acc) : ∃ ad cap, v = .slice ad acc.length cap ∧ acc.length ≤ maxLen ∧ LnAt w ad acc := by
  obtain ⟨us, u1, u2, u3, u4⟩ := h
  obtain ⟨ad, cap, rfl, hm, hc⟩ := rds_one u2
  refine ⟨ad, cap, by rw [u1], by omega, fun i hi => ?_⟩
  obtain ⟨b, off, e, hl, hcell⟩ := hc i (by omega)
  have hr := u4 i (by omega) hi
  obtain ⟨adw, capw, hu, r⟩ := id hr
  rw [hu] at hcell hr
  exact ⟨b, off, adw, capw, e, hl, hcell, hr.mono fun _ _ _ => trivial⟩
theorem LnAt.below {w w' : World} {ad : Option Addr} {acc : List (List Wrd)} (h : LnAt w ad acc) (hb : Below w.heap.size w w') : LnAt w' ad acc := fun i hi => by
  obtain ⟨b, off, adw, capw, e, hl, hc, hr⟩ := h i hi
  exact ⟨b, off, adw, capw, e, Nat.lt_of_lt_of_le hl hb.size, (hb.cell (p := ⟨b, off + i, none⟩) hl).trans hc, hr.below hb⟩
theorem RdsW.at_ {ok : Nat → Prop} {w : World} {adw : Option Addr} {n capw : Nat} {ws : List Wrd} (h : RdsW ok w (.slice adw n capw) ws) (i : Nat) (hi : i < ws.length) : ∃ b off, adw = some ⟨b, off, none⟩ ∧ b < w.heap.size ∧
    w.cell? ⟨b, off + i * 3, none⟩ = some (.string ws[i].t) ∧ w.cell? ⟨b, off + i * 3 + 1, none⟩ = some (.int .i64 ws[i].l) ∧ w.cell? ⟨b, off + i * 3 + 2, none⟩ = some (.int .i64 ws[i].c) := by
  obtain ⟨ad', cap', e, _, _, hg⟩ := h
  injection e with e1 _ _
  subst e1
  obtain ⟨b, off, h1, h2, _, h3⟩ := hg i hi
  exact ⟨b, off, h1, h2, h3⟩

end Go.Proofs.YtbjkbcbclgfmpaaDoor
/-
  Walks over package words and the reference: Number.
-/
namespace Go.Proofs.YtbjkbcbclgfmpaaDoor
open Go.RowKit Go.Shelf
set_option linter.unusedVariables false
set_option linter.unusedSimpArgs false

namespace Wd
def numF : Nat → List UInt8 → Option Nat
  | n, [] => some n
  | n, c :: t => if Rp.isDigit c then numF (n * 10 + (c.toNat - 48)) t else none
/-- A number's value and its error. -/
def numE (l : List UInt8) : Nat × Nat :=
  if l.length = 0 ∨ 10 < l.length ∨ (l.headD 0 = 48 ∧ 1 < l.length) then (0, 32)
  else match numF 0 l with
    | none => (0, 32)
    | some n => if 2147483647 < n then (0, 32) else (n, 0)
end Wd

theorem digit_range {c : UInt8} (h : Rp.isDigit c = true) : 48 ≤ c.toNat ∧ c.toNat ≤ 57 := by
  unfold Rp.isDigit at h
  simp only [Bool.and_eq_true, decide_eq_true_eq] at h
  have h1 : (48 : UInt8).toNat ≤ c.toNat := h.1
  have h2 : c.toNat ≤ (57 : UInt8).toNat := h.2
  exact ⟨h1, h2⟩

/-- Where the number's reader is. -/
structure NumSt (s : ByteArray) (k n : Nat) : Prop where
  eq : Wd.numE s.data.toList = (match Wd.numF n (s.data.toList.drop k) with
    | none => (0, 32)
    | some n => if 2147483647 < n then (0, 32) else (n, 0))
  lt : n < 10 ^ k

theorem NumSt.start {s : ByteArray} (h0 : ¬ s.size = 0) (h1 : s.size ≤ 10) (h2 : ¬ (s[0]'(by omega) = 48 ∧ 1 < s.size)) : NumSt s 0 0 := by
  refine ⟨?_, by simp⟩
  unfold Wd.numE
  rw [size_list, head_byte s (by omega), if_neg (by rintro (h | h | h); exact h0 h; omega; exact h2 h)]
  rfl
theorem NumSt.step {s : ByteArray} {k n : Nat} (h : NumSt s k n) (hk : k < s.size) (hd : Rp.isDigit s[k] = true) : NumSt s (k + 1) (n * 10 + (s[k].toNat - 48)) := by
  refine ⟨?_, ?_⟩
  · have e : s.data.toList.drop k = s[k] :: s.data.toList.drop (k + 1) := by rw [List.drop_eq_getElem_cons (by simpa using hk)]; rfl
    rw [h.eq, e, Wd.numF, if_pos hd]
  · have h1 := h.lt
    have h2 := digit_range hd
    rw [Nat.pow_succ]
    omega
theorem NumSt.bad {s : ByteArray} {k n : Nat} (h : NumSt s k n) (hk : k < s.size) (hd : Rp.isDigit s[k] = false) : Wd.numE s.data.toList = (0, 32) := by
  have e : s.data.toList.drop k = s[k] :: s.data.toList.drop (k + 1) := by rw [List.drop_eq_getElem_cons (by simpa using hk)]; rfl
  rw [h.eq, e, Wd.numF, hd]
  rfl
theorem NumSt.done {s : ByteArray} {k n : Nat} (h : NumSt s k n) (hk : k = s.size) : Wd.numE s.data.toList = if 2147483647 < n then (0, 32) else (n, 0) := by
  rw [h.eq, hk, List.drop_of_length_le (by rw [size_list]; omega)]
  rfl
theorem numE_bad {s : ByteArray} (h : s.size = 0 ∨ 10 < s.size) : Wd.numE s.data.toList = (0, 32) := by
  unfold Wd.numE
  rw [size_list, if_pos (by rcases h with h | h; exact .inl h; exact .inr (.inl h))]
theorem numE_zero {s : ByteArray} (h : 1 < s.size) (hz : s[0] = 48) : Wd.numE s.data.toList = (0, 32) := by
  unfold Wd.numE
  rw [size_list, head_byte s (by omega), if_pos (.inr (.inr ⟨hz, h⟩))]
theorem num_lt {k n : Nat} (h : n < 10 ^ k) (hk : k ≤ 10) : n < 10000000000 := by
  have : 10 ^ k ≤ 10 ^ 10 := Nat.pow_le_pow_right (by omega) hk
  omega

def numR (l : List UInt8) : Ending := .returned (.tuple #[.int .i64 (Wd.numE l).1, .int .i64 (Wd.numE l).2])
theorem numR_bad {l : List UInt8} (h : Wd.numE l = (0, 32)) : Ending.returned (.tuple #[.int .i64 0, .int .i64 32]) = numR l := by unfold numR; rw [h]; rfl
theorem numR_ok {l : List UInt8} {n : Nat} (h : Wd.numE l = (n, 0)) : Ending.returned (.tuple #[.int .i64 n, .int .i64 0]) = numR l := by unfold numR; rw [h]; rfl

set_option maxHeartbeats 1600000 in
set_option maxRecDepth 20000 in
theorem Number_any (s : ByteArray) (w : World) (hs : s.size ≤ maxLen) : Calls Tryd.prog 30 #[.string s] w fun e w' => e = numR s.data.toList ∧ w = w' := by
  unfold maxLen at hs
  by_cases h0 : s.size = 0
  · have HF := Lib.hid (numE_bad (s := s) (.inl h0))
    have hn := str_nil s h0
    have hne : (s.toList.isEmpty) = true := by rw [hn]; rfl
    go_enter Tryd.func30, Tryd.ntmps30
    go_wp2_with fail
    go_ret2
    exact ⟨numR_bad HF.out, rfl⟩
  · have hnn := str_not_nil s h0
    have hne : (s.toList.isEmpty) = false := by simpa using hnn
    by_cases h1 : 10 < s.size
    · have HF := Lib.hid (numE_bad (s := s) (.inr h1))
      have hz : (10 : Int) < (s.size : Int) := by omega
      go_enter Tryd.func30, Tryd.ntmps30
      go_wp2_with fail
      go_ret2
      exact ⟨numR_bad HF.out, rfl⟩
    · have hz : decide ((10 : Int) < (s.size : Int)) = false := by simp; omega
      have hp : 0 < s.size := by omega
      by_cases h2 : s[0] = 48 ∧ 1 < s.size
      · have HF := Lib.hid (numE_zero h2.2 h2.1)
        have hb := byte_eq (48 : UInt8) h2.1 48 rfl
        have hl : (1 : Int) < (s.size : Int) := by omega
        clear h2
        go_enter Tryd.func30, Tryd.ntmps30
        go_wp2_with fail
        go_ret2
        exact ⟨numR_bad HF.out, rfl⟩
      · have HS := Lib.hid (NumSt.start h0 (by omega) h2)
        have hcase : ((s[0].toNat : Int) == 48) = true ∧ decide ((1 : Int) < (s.size : Int)) = false ∨ ((s[0].toNat : Int) == 48) = false := by
          by_cases h : s[0] = 48
          · exact .inl ⟨(byte_eq (48 : UInt8) h 48 rfl).1, by simp; have : ¬ 1 < s.size := fun hh => h2 ⟨h, hh⟩; omega⟩
          · exact .inr (byte_ne (48 : UInt8) h 48 rfl).1
        clear h2
        rcases hcase with ⟨hb, hl⟩ | hb
        all_goals
          go_enter Tryd.func30, Tryd.ntmps30
          go_wp2_with fail
          go_loop [4, 25] (fun nv kv => ∃ n k : Nat, k ≤ s.size ∧ nv = .int .i64 n ∧ kv = .int .i64 k ∧ n < 10000000000 ∧ Hid (NumSt s k n)) (fun nv kv => s.size - (intOf kv).toNat)
          case atStart => exact ⟨0, 0, Nat.zero_le _, rfl, rfl, by omega, HS.out⟩
          case round =>
            obtain ⟨n, k, hk, rfl, rfl, hnl, HN⟩ := hrel
            by_cases hlt : k < s.size
            · have hkz : (k : Int) < (s.size : Int) := by omega
              obtain ⟨d, hd⟩ : ∃ d, Rp.isDigit s[k] = d := ⟨_, rfl⟩
              have HD := Lib.hid (digit_is s[k] d hd)
              have HDd := Lib.hid hd
              clear hd
              cases d with
              | true =>
                obtain ⟨r1, r2⟩ := digit_range HDd.out
                have r3 : (48 : Int) ≤ (s[k].toNat : Int) := by omega
                have r4 : (s[k].toNat : Int) ≤ 57 := by omega
                have HN2 := Lib.hid (HN.out.step hlt HDd.out)
                have hn2 : n * 10 + (s[k].toNat - 48) < 10000000000 := num_lt HN2.out.lt (by omega)
                go_wp2_with ((with_reducible refine (HD.out _).mono ?_); rintro e w' ⟨rfl, rfl⟩)
                go_round
                case rel => exact ⟨_, k + 1, by omega, by go_num, by go_num, hn2, HN2⟩
                case measure => simp [intOf]; omega
              | false =>
                have HF := Lib.hid (HN.out.bad hlt HDd.out)
                go_wp2_with ((with_reducible refine (HD.out _).mono ?_); rintro e w' ⟨rfl, rfl⟩)
                go_ret2
                exact ⟨numR_bad HF.out, rfl⟩
            · have hkz : decide ((k : Int) < (s.size : Int)) = false := by simp; omega
              have HE := Lib.hid (HN.out.done (by omega))
              by_cases hbig : 2147483647 < n
              · have hbz : (2147483647 : Int) < (n : Int) := by omega
                have HF : Hid (Wd.numE s.data.toList = (0, 32)) := by show _ = _; rw [HE.out, if_pos hbig]
                go_wp2_with fail
                go_ret2
                exact ⟨numR_bad HF.out, rfl⟩
              · have hbz : decide ((2147483647 : Int) < (n : Int)) = false := by simp; omega
                have HF : Hid (Wd.numE s.data.toList = (n, 0)) := by show _ = _; rw [HE.out, if_neg hbig]
                go_wp2_with fail
                go_ret2
                exact ⟨numR_ok HF.out, rfl⟩

end Go.Proofs.YtbjkbcbclgfmpaaDoor
/-
  The law WordsLines: its walk.
-/
namespace Go.Proofs.YtbjkbcbclgfmpaaDoor
open Go.RowKit Go.Shelf
set_option linter.unusedVariables false
set_option linter.unusedSimpArgs false

theorem lines_at (s : ByteArray) (w : World) (hs : s.size ≤ 1048576) (acc : List (List Wrd)) (h : Wd.lines s.data.toList = .ok acc) :
    Calls Tryd.prog 15 #[.string s] w fun e w' => ∃ ad cap, e = .returned (.tuple #[.slice ad acc.length cap, .int .i64 0, .int .i64 0, .int .i64 0]) ∧ LnAt w' ad acc ∧ acc.length ≤ maxLen ∧ Below w.heap.size w w' :=
  (lines_any s w hs).mono fun e w' hp => by
    unfold LinesPost at hp
    rw [h] at hp
    obtain ⟨v, rfl, h1, h2⟩ := hp
    obtain ⟨ad, cap, rfl, h3, h4⟩ := rdsLn_at h1
    exact ⟨ad, cap, rfl, h4, h3, h2⟩

end Go.Proofs.YtbjkbcbclgfmpaaDoor
