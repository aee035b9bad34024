/-
  A slice value that reads as rules, four cells each, in blocks that a test allows; frames that leave out some blocks.
-/
import Derived.Test.YtlbelkjgaeaaeaaGreatRulPure
import Derived.Test.YtlbelkjgaeaaeaaGreatAppend
import Derived.Test.YtlbelkjgaeaaeaaGreatShelf
namespace Go.Proofs.YtlbelkjgaeaaeaaGreat
open Go.RowKit
set_option linter.unusedVariables false

/-- Where a slice lies. -/
def okV (ok : Nat → Prop) (v : Value) : Prop := ∀ a n c, v = .slice (some a) n c → n ≠ 0 → ok a.block

/-- v reads as strings, in blocks that are ok. -/
def RdsO (ok : Nat → Prop) (w : World) (v : Value) (ss : List ByteArray) : Prop := RdsS w v ss ∧ okV ok v

/-- The cells of a rule. -/
structure RC where
  p : Int
  m : ByteArray
  k : Int
  a : Option Addr
  n : Nat
  c : Nat
deriving Inhabited

def encR (x : RC) : List Value := [.int .i64 x.p, .string x.m, .int .i64 x.k, .slice x.a x.n x.c]
def cellsR (l : List RC) : List Value := l.flatMap encR
def RC.v (x : RC) : Value := .agg #[.int .i64 x.p, .string x.m, .int .i64 x.k, .slice x.a x.n x.c]

/-- The cells x read as the rule r. -/
structure RdC (ok : Nat → Prop) (w : World) (x : RC) (r : Rl) : Prop where
  p : x.p = r.p
  m : x.m = r.m
  k : x.k = r.k
  s : RdsO ok w (.slice x.a x.n x.c) r.ps
  z : Rp.Sz r

/-- v reads as the rules L, in blocks that are ok. -/
def RdsR (ok : Nat → Prop) (w : World) (v : Value) (L : List Rl) : Prop :=
  ∃ (xs : List RC) (ad : Option Addr) (n cap : Nat), v = .slice ad n cap ∧ n = L.length ∧ xs.length = n ∧ (n ≤ cap ∧ (ad = none → cap = 0)) ∧ cap ≤ maxLen ∧ okV ok v ∧
    (∀ i (h : i < xs.length), ∃ b off, ad = some ⟨b, off, none⟩ ∧ b < w.heap.size ∧
      w.cell? ⟨b, off + i * 4, none⟩ = some (.int .i64 xs[i].p) ∧ w.cell? ⟨b, off + i * 4 + 1, none⟩ = some (.string xs[i].m) ∧ w.cell? ⟨b, off + i * 4 + 2, none⟩ = some (.int .i64 xs[i].k) ∧ w.cell? ⟨b, off + i * 4 + 3, none⟩ = some (.slice xs[i].a xs[i].n xs[i].c)) ∧
    ∀ i (h : i < xs.length) (h' : i < L.length), RdC ok w xs[i] L[i]

/-- Only blocks of S may have turned. -/
structure But (S : Nat → Prop) (w w' : World) : Prop where
  os : w'.os = w.os
  tape : w'.tape = w.tape
  output : w'.output = w.output
  size : w.heap.size ≤ w'.heap.size
  block : ∀ k, k < w.heap.size → ¬ S k → w'.heap[k]? = w.heap[k]?

theorem But.refl (S : Nat → Prop) (w : World) : But S w w := ⟨rfl, rfl, rfl, Nat.le_refl _, fun _ _ _ => rfl⟩
theorem But.trans {S : Nat → Prop} {a b c : World} (h : But S a b) (k : But S b c) : But S a c :=
  ⟨k.os.trans h.os, k.tape.trans h.tape, k.output.trans h.output, Nat.le_trans h.size k.size, fun i hi hs => (k.block i (Nat.lt_of_lt_of_le hi h.size) hs).trans (h.block i hi hs)⟩
theorem But.mono {S T : Nat → Prop} {w w' : World} (h : But S w w') (hs : ∀ k, S k → T k) : But T w w' := ⟨h.os, h.tape, h.output, h.size, fun k hk ht => h.block k hk (fun hn => ht (hs k hn))⟩
theorem But.below {S : Nat → Prop} {w w' : World} (h : Below w.heap.size w w') : But S w w' := ⟨h.os, h.tape, h.output, h.size, fun k hk _ => h.block k hk⟩
theorem But.set {S : Nat → Prop} {w : World} {a : Addr} (hs : S a.block) (u : Value) : But S w (w.setCell a u) :=
  ⟨rfl, rfl, rfl, by simp [World.setCell], fun k _ hn => Below.heap_setCell _ _ _ _ (fun e => hn (by rw [e]; exact hs))⟩
theorem But.toBelow {S : Nat → Prop} {w w' : World} {B : Nat} (h : But S w w') (hB : B ≤ w.heap.size) (hs : ∀ k, S k → B ≤ k) : Below B w w' :=
  ⟨h.os, h.tape, h.output, h.size, fun k hk => h.block k (by omega) (fun hn => by have := hs k hn; omega)⟩
theorem But.cell {S : Nat → Prop} {w w' : World} (h : But S w w') {p : Addr} (hp : p.block < w.heap.size) (hs : ¬ S p.block) : w'.cell? p = w.cell? p := World.cell?_of_block (w := w) (h.block p.block hp hs)
theorem But.frozen {S : Nat → Prop} {w w' : World} (h : But S w w') {p : Addr} (hp : p.block < w.heap.size) (hs : ¬ S p.block) : w'.frozen? p = w.frozen? p := World.frozen?_of_block (w := w) (h.block p.block hp hs)

theorem okV_mono {ok ok' : Nat → Prop} {v : Value} (h : okV ok v) (hk : ∀ b, ok b → ok' b) : okV ok' v := fun a n c hv hn => hk _ (h a n c hv hn)
theorem okV_nil (ok : Nat → Prop) (n c : Nat) : okV ok (.slice none n c) := fun a n c hv => by cases hv
theorem okV_some {ok : Nat → Prop} {a : Addr} {n c : Nat} (h : ok a.block) : okV ok (.slice (some a) n c) := fun a' n' c' hv _ => by injection hv with e1 _ _; injection e1 with e1; subst e1; exact h
theorem okV_zero (ok : Nat → Prop) (a : Option Addr) (c : Nat) : okV ok (.slice a 0 c) := fun a' n' c' hv hn => by injection hv with _ e2 _; exact absurd e2.symm hn

theorem Rds.but {S : Nat → Prop} {w w' : World} {v : Value} {xs : List Value} (h : Rds w v xs) (hb : But S w w') (hv : okV (fun b => ¬ S b) v) : Rds w' v xs := by
  rcases h with h | ⟨b, off, cap, h1, h2, h3, h4, h5⟩
  · exact .inl h
  · subst h1
    by_cases h0 : xs.length = 0
    · exact .inl ⟨_, _, by rw [h0], List.length_eq_zero_iff.1 h0, fun h => by cases h⟩
    have hs : ¬ S b := hv _ _ _ rfl h0
    exact .inr ⟨b, off, cap, rfl, h2, h3, Nat.lt_of_lt_of_le h4 hb.size, fun i hi => (hb.cell (p := ⟨b, off + i, none⟩) h4 hs).trans (h5 i hi)⟩

theorem RdsO.but {ok S : Nat → Prop} {w w' : World} {v : Value} {ss : List ByteArray} (h : RdsO ok w v ss) (hb : But S w w') (hs : ∀ b, ok b → ¬ S b) : RdsO ok w' v ss :=
  ⟨Rds.but h.1 hb (okV_mono h.2 hs), h.2⟩
theorem RdsO.lt {ok : Nat → Prop} {w : World} {v : Value} {ss : List ByteArray} (h : RdsO ok w v ss) : RdsO (fun b => ok b ∧ b < w.heap.size) w v ss := by
  refine ⟨h.1, fun a n c hv hn => ⟨h.2 a n c hv hn, ?_⟩⟩
  rcases h.1 with ⟨a', c', h1, h2, _⟩ | ⟨b, off, cap, h1, h2, h3, h4, h5⟩
  · rw [hv] at h1; injection h1 with _ e2 _; exact absurd e2 hn
  · rw [hv] at h1; injection h1 with e1 _ _; injection e1 with e1; rw [e1]; exact h4
theorem RdsO.below {ok : Nat → Prop} {w w' : World} {v : Value} {ss : List ByteArray} (h : RdsO ok w v ss) (hb : Below w.heap.size w w') : RdsO ok w' v ss := ⟨h.1.below hb, h.2⟩
theorem RdsO.mono {ok ok' : Nat → Prop} {w : World} {v : Value} {ss : List ByteArray} (h : RdsO ok w v ss) (hk : ∀ b, ok b → ok' b) : RdsO ok' w v ss := ⟨h.1, okV_mono h.2 hk⟩

theorem RdC.below {ok : Nat → Prop} {w w' : World} {x : RC} {r : Rl} (h : RdC ok w x r) (hb : Below w.heap.size w w') : RdC ok w' x r := ⟨h.p, h.m, h.k, h.s.below hb, h.z⟩
theorem RdC.but {ok S : Nat → Prop} {w w' : World} {x : RC} {r : Rl} (h : RdC ok w x r) (hb : But S w w') (hs : ∀ b, ok b → ¬ S b) : RdC ok w' x r := ⟨h.p, h.m, h.k, h.s.but hb hs, h.z⟩
theorem RdC.mono {ok ok' : Nat → Prop} {w : World} {x : RC} {r : Rl} (h : RdC ok w x r) (hk : ∀ b, ok b → ok' b) : RdC ok' w x r := ⟨h.p, h.m, h.k, h.s.mono hk, h.z⟩

theorem RdsR.but {ok S : Nat → Prop} {w w' : World} {v : Value} {L : List Rl} (h : RdsR ok w v L) (hb : But S w w') (hs : ∀ b, ok b → ¬ S b) : RdsR ok w' v L := by
  obtain ⟨xs, ad, n, cap, rfl, h2, h3, h4, h5, h6, h7, h8⟩ := h
  refine ⟨xs, ad, n, cap, rfl, h2, h3, h4, h5, h6, fun i hi => ?_, fun i hi hi' => (h8 i hi hi').but hb hs⟩
  obtain ⟨b, off, rfl, hlt, c0, c1, c2, c3⟩ := h7 i hi
  have hS : ¬ S b := hs b (h6 _ _ _ rfl (by omega))
  exact ⟨b, off, rfl, Nat.lt_of_lt_of_le hlt hb.size, (hb.cell (p := ⟨b, off + i * 4, none⟩) hlt hS).trans c0, (hb.cell (p := ⟨b, off + i * 4 + 1, none⟩) hlt hS).trans c1, (hb.cell (p := ⟨b, off + i * 4 + 2, none⟩) hlt hS).trans c2, (hb.cell (p := ⟨b, off + i * 4 + 3, none⟩) hlt hS).trans c3⟩

theorem RdsR.below {ok : Nat → Prop} {w w' : World} {v : Value} {L : List Rl} (h : RdsR ok w v L) (hb : Below w.heap.size w w') : RdsR ok w' v L := h.but (S := fun _ => False) (But.below hb) (fun _ _ h => h)

theorem RdsR.mono {ok ok' : Nat → Prop} {w : World} {v : Value} {L : List Rl} (h : RdsR ok w v L) (hk : ∀ b, ok b → ok' b) : RdsR ok' w v L := by
  obtain ⟨xs, ad, n, cap, h1, h2, h3, h4, h5, h6, h7, h8⟩ := h
  exact ⟨xs, ad, n, cap, h1, h2, h3, h4, h5, okV_mono h6 hk, h7, fun i hi hi' => (h8 i hi hi').mono hk⟩

theorem RdC.lt {ok : Nat → Prop} {w : World} {x : RC} {r : Rl} (h : RdC ok w x r) : RdC (fun b => ok b ∧ b < w.heap.size) w x r := ⟨h.p, h.m, h.k, h.s.lt, h.z⟩
theorem RdsR.lt {ok : Nat → Prop} {w : World} {v : Value} {L : List Rl} (h : RdsR ok w v L) : RdsR (fun b => ok b ∧ b < w.heap.size) w v L := by
  obtain ⟨xs, ad, n, cap, h1, h2, h3, h4, h5, h6, h7, h8⟩ := h
  refine ⟨xs, ad, n, cap, h1, h2, h3, h4, h5, fun a m c hv hn => ⟨h6 a m c hv hn, ?_⟩, h7, fun i hi hi' => (h8 i hi hi').lt⟩
  rw [h1] at hv
  injection hv with e1 e2 _
  obtain ⟨b, off, h9, h10, _⟩ := h7 0 (by omega)
  rw [e1] at h9
  injection h9 with h9
  rw [h9]; exact h10

theorem rdsR_nil (ok : Nat → Prop) (w : World) : RdsR ok w (.slice none 0 0) [] := ⟨[], none, 0, 0, rfl, rfl, rfl, ⟨Nat.le_refl _, fun _ => rfl⟩, Nat.zero_le _, okV_nil _ _ _, fun i h => absurd h (Nat.not_lt_zero _), fun i h => absurd h (Nat.not_lt_zero _)⟩

/-- One element. -/
theorem RdsR.get {ok : Nat → Prop} {w : World} {ad : Option Addr} {n cap : Nat} {L : List Rl} (h : RdsR ok w (.slice ad n cap) L) (i : Nat) (hi : i < L.length) : ∃ (b off : Nat) (x : RC), ad = some ⟨b, off, none⟩ ∧ b < w.heap.size ∧ ok b ∧
    w.cell? ⟨b, off + i * 4, none⟩ = some (.int .i64 x.p) ∧ w.cell? ⟨b, off + i * 4 + 1, none⟩ = some (.string x.m) ∧ w.cell? ⟨b, off + i * 4 + 2, none⟩ = some (.int .i64 x.k) ∧ w.cell? ⟨b, off + i * 4 + 3, none⟩ = some (.slice x.a x.n x.c) ∧ RdC ok w x L[i] := by
  obtain ⟨xs, ad', n', cap', h1, h2, h3, h4, h5, h6, h7, h8⟩ := h
  injection h1 with e1 e2 e3
  subst e1 e2 e3
  obtain ⟨b, off, rfl, hlt, c0, c1, c2, c3⟩ := h7 i (by omega)
  exact ⟨b, off, xs[i]'(by omega), rfl, hlt, h6 _ _ _ rfl (by omega), c0, c1, c2, c3, h8 i (by omega) hi⟩

theorem RdsR.form {ok : Nat → Prop} {w : World} {v : Value} {L : List Rl} (h : RdsR ok w v L) : ∃ ad cap, v = .slice ad L.length cap ∧ L.length ≤ cap ∧ cap ≤ maxLen := by
  obtain ⟨xs, ad, n, cap, rfl, rfl, h3, h4, h5, _⟩ := h
  exact ⟨ad, cap, rfl, h4.1, h5⟩

theorem RdsR.len {ok : Nat → Prop} {w : World} {ad : Option Addr} {n cap : Nat} {L : List Rl} (h : RdsR ok w (.slice ad n cap) L) : n = L.length ∧ n ≤ cap ∧ cap ≤ maxLen := by
  obtain ⟨xs, ad', n', cap', h1, h2, h3, h4, h5, _⟩ := h
  injection h1 with e1 e2 e3
  subst e1 e2 e3
  exact ⟨h2, h4.1, h5⟩

theorem RdsR.nilcap {ok : Nat → Prop} {w : World} {n cap : Nat} {L : List Rl} (h : RdsR ok w (.slice none n cap) L) : L = [] ∧ n = 0 ∧ cap = 0 := by
  obtain ⟨xs, ad', n', cap', h1, h2, h3, h4, h5, _⟩ := h
  injection h1 with e1 e2 e3
  subst e1 e2 e3
  have := h4.2 rfl
  have : n = 0 := by omega
  exact ⟨List.length_eq_zero_iff.1 (by omega), this, h4.2 rfl⟩

theorem rdsS_nilcap {w : World} {n c : Nat} {ss : List ByteArray} (h : RdsS w (.slice none n c) ss) : ss = [] ∧ n = 0 ∧ c = 0 := by
  rcases h with ⟨a', c', h1, h2, h3⟩ | ⟨b, off, cap, h1, _⟩
  · injection h1 with e1 e2 e3
    subst e1 e2 e3
    exact ⟨List.map_eq_nil_iff.1 h2, rfl, h3 rfl⟩
  · cases h1

theorem encR_len (x : RC) : (encR x).length = 4 := rfl
theorem encR_one (x : RC) : ∀ u ∈ encR x, u.oneCell' = true := by
  intro u hu
  simp only [encR, List.mem_cons, List.mem_nil_iff, or_false] at hu
  rcases hu with rfl | rfl | rfl | rfl <;> rfl
theorem cellsR_nil : cellsR [] = [] := rfl
theorem cellsR_cons (x : RC) (l : List RC) : cellsR (x :: l) = encR x ++ cellsR l := rfl
theorem cellsR_append (a b : List RC) : cellsR (a ++ b) = cellsR a ++ cellsR b := by simp [cellsR]
theorem cellsR_length : ∀ (l : List RC), (cellsR l).length = l.length * 4
  | [] => rfl
  | x :: l => by rw [cellsR_cons, List.length_append, encR_len, cellsR_length l, List.length_cons]; omega
theorem cellsR_one (l : List RC) : ∀ u ∈ cellsR l, u.oneCell' = true := by
  intro u hu
  obtain ⟨x, _, hu⟩ := List.mem_flatMap.1 hu
  exact encR_one x u hu
theorem cellsR_get : ∀ (l : List RC) (i : Nat) (h : i < l.length), (cellsR l)[i * 4]? = some (.int .i64 l[i].p) ∧ (cellsR l)[i * 4 + 1]? = some (.string l[i].m) ∧ (cellsR l)[i * 4 + 2]? = some (.int .i64 l[i].k) ∧ (cellsR l)[i * 4 + 3]? = some (.slice l[i].a l[i].n l[i].c)
  | [], i, h => absurd h (Nat.not_lt_zero i)
  | x :: l, 0, _ => by simp [cellsR_cons, encR]
  | x :: l, i + 1, h => by
    have := cellsR_get l i (by simpa using h)
    rw [cellsR_cons, show (i + 1) * 4 = i * 4 + 4 by omega]
    simpa [encR] using this

/-- A row of the call's own. -/
structure OwnR (ok : Nat → Prop) (w : World) (base : Nat) (v : Value) (xs : List RC) (L : List Rl) : Prop where
  row : w.ownsRow base 62 4 v L.length (cellsR xs)
  len : xs.length = L.length
  rd : ∀ i (h : i < xs.length) (h' : i < L.length), RdC ok w xs[i] L[i]

theorem OwnR.toRds {ok : Nat → Prop} {w : World} {base : Nat} {v : Value} {xs : List RC} {L : List Rl} (h : OwnR ok w base v xs L) (hk : ∀ b, base ≤ b → ok b) : RdsR ok w v L := by
  obtain ⟨⟨h1, h2⟩, h3, h4⟩ := h
  rcases h2 with ⟨h2, h5⟩ | ⟨g, cap, cur, hv, hg, hh, hn, hc, hs, ht⟩
  · subst h2
    have e1 : L = [] := List.length_eq_zero_iff.1 h5
    have e2 : xs = [] := List.length_eq_zero_iff.1 (by omega)
    subst e1 e2
    exact rdsR_nil _ _
  · refine ⟨xs, _, _, cap, hv, rfl, h3, ⟨hn, fun h => by cases h⟩, hc, ?_, fun i hi => ⟨g, 0, rfl, ?_, ?_⟩, h4⟩
    · rw [hv]; exact okV_some (hk g hg)
    · rcases Nat.lt_or_ge g w.heap.size with h | h
      · exact h
      · simp [Array.getElem?_eq_none h] at hh
    · have key : ∀ j u, j < L.length * 4 → (cellsR xs)[j]? = some u → w.cell? ⟨g, 0 + j, none⟩ = some u := fun j u hj hu => by
        rw [← ht, List.getElem?_take_of_lt (by omega)] at hu
        simp only [World.cell?, hh, Nat.zero_add]
        simpa using hu
      have h6 := cellsR_get xs i hi
      have k0 := key (i * 4) _ (by omega) h6.1
      have k1 := key (i * 4 + 1) _ (by omega) h6.2.1
      have k2 := key (i * 4 + 2) _ (by omega) h6.2.2.1
      have k3 := key (i * 4 + 3) _ (by omega) h6.2.2.2
      exact ⟨k0, k1, k2, k3⟩

theorem ownR_nil (ok : Nat → Prop) (w : World) (base : Nat) : OwnR ok w base (.slice none 0 0) [] [] := ⟨World.ownsRow_nil _ _ _ _, rfl, fun i h => absurd h (Nat.not_lt_zero _)⟩

theorem infoR : (Tryz.prog.info? 62).map (fun i => (i.zero, i.size, i.bytes)) = some (some (.agg #[.int .i64 0, .string ⟨#[]⟩, .int .i64 0, .slice none 0 0]), 4, 56) := by kernel_rfl
theorem infoS : (Tryz.prog.info? 9).map (fun i => (i.zero, i.size, i.bytes)) = some (some (.string ⟨#[]⟩), 1, 16) := by kernel_rfl
end Go.Proofs.YtlbelkjgaeaaeaaGreat
