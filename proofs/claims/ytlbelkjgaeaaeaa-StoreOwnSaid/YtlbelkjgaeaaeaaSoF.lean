/-
  The law StoreKept: what its loops keep.
-/
import Derived.Test.YtlbelkjgaeaaeaaSoC
import Derived.Test.YtlbelkjgaeaaeaaSoE
import Derived.SizedLaws
import Derived.SliceStrings
import Derived.ProofKit
import Derived.Deep.Slices
import Derived.Deep.Strs
import Derived.Test.YtlbelkjgaeaaeaaRul
import Derived.Test.YtlbelkjgaeaaeaaSoA
namespace Go.Proofs.Ytlbelkjgaeaaeaa
open Go.RowKit Go.Shelf Go.Lib Go.Sort
set_option linter.unusedVariables false
set_option linter.unusedSectionVars false
set_option linter.unusedSimpArgs false

theorem Sto.toP {ok : Nat → Prop} {base : Nat} {w : World} {sb tb : Nat} {v vo : Value} {us : List Value} {L : List Rl} {W : Int} {ver boot : Nat} {olds : List (List Rl)} (h : Sto ok base w sb tb v vo us L W ver boot olds) (P : Nat → Prop) (hP : ∀ b, ok b → b < w.heap.size → P b) (hs : ∀ b, P b → b ≠ sb) (ht : ∀ b, P b → b ≠ tb) (hv : ∀ b, vo.ownBlock = some b → ¬ P b) : Sto P base w sb tb v vo us L W ver boot olds :=
  ⟨h.c0, h.c1, h.c2, h.c3, h.f1, h.f2, h.f3, h.tab.toQ P hP ht, h.own, h.len, fun i a b => (h.rd i a b).lt.mono fun k hk => hP k hk.1 hk.2, hs, h.ne, fun b hb => ⟨hv b hb, (h.nv b hb).2⟩⟩

/-- Blocks in which what is told may lie. -/
def okK (n0 sb tb : Nat) (vo rv : Value) (b : Nat) : Prop := n0 ≤ b ∧ b ≠ sb ∧ b ≠ tb ∧ vo.ownBlock ≠ some b ∧ rv.ownBlock ≠ some b

/-- A store, and the rules of its versions, told one after another. -/
structure Kp (n0 : Nat) (wr : World) (sb tb : Nat) (v vo rv : Value) (us rs : List Value) (L : List Rl) (W : Int) (ver boot : Nat) (olds : List (List Rl)) : Prop where
  sto : Sto (okK n0 sb tb vo rv) n0 wr sb tb v vo us L W ver boot olds
  row : wr.ownsRow n0 28 1 rv rs.length rs
  rlen : rs.length = olds.length
  rrd : ∀ i (h : i < rs.length) (h' : i < olds.length), RdsR (okK n0 sb tb vo rv) wr rs[i] olds[i]
  rne : ∀ b, rv.ownBlock = some b → b ≠ sb ∧ b ≠ tb ∧ vo.ownBlock ≠ some b
  lv : olds.length = ver + 1
  few : ∀ l ∈ olds, l.length ≤ 4096
  okL : Fb.Ok W L
  sn : n0 ≤ sb
  tn : n0 ≤ tb

theorem Kp.below {n0 : Nat} {wr w' : World} {sb tb : Nat} {v vo rv : Value} {us rs : List Value} {L : List Rl} {W : Int} {ver boot : Nat} {olds : List (List Rl)} (h : Kp n0 wr sb tb v vo rv us rs L W ver boot olds) (hb : Below wr.heap.size wr w') : Kp n0 w' sb tb v vo rv us rs L W ver boot olds :=
  ⟨h.sto.below hb, ownsRow_below h.row hb, h.rlen, fun i a b => (h.rrd i a b).below hb, h.rne, h.lv, h.few, h.okL, h.sn, h.tn⟩

/-- Behind a refused install. -/
theorem Kp.bad {n0 : Nat} {wr w' : World} {sb tb : Nat} {v v' vo rv : Value} {us rs : List Value} {L : List Rl} {W : Int} {ver boot : Nat} {olds : List (List Rl)} (h : Kp n0 wr sb tb v vo rv us rs L W ver boot olds) (hs : Sto (okNew (okK n0 sb tb vo rv) wr) n0 w' sb tb v' vo us L W ver boot olds) (hb : But (fun b => b = tb) wr w') : Kp n0 w' sb tb v' vo rv us rs L W ver boot olds := by
  have hsl := h.sto.slt
  have htl := h.sto.tab.lt
  refine ⟨hs.toP _ ?_ (fun b hb => hb.2.1) (fun b hb => hb.2.2.1) (fun b hb h1 => h1.2.2.2.1 hb), ownsRow_butS h.row hb (fun b hb e => (h.rne b hb).2.1 e), h.rlen, fun i a b => (h.rrd i a b).but hb (fun b hb e => hb.2.2.1 e), h.rne, h.lv, h.few, h.okL, h.sn, h.tn⟩
  rintro b (⟨h1, _⟩ | h1) _
  · exact h1
  · refine ⟨by have := h.sn; omega, by omega, by omega, fun e => ?_, fun e => ?_⟩
    · have := (own_lt h.sto.own e).2; omega
    · have := (own_lt h.row e).2; omega

/-- Behind an install that made a version, its rules told. -/
theorem Kp.good {n0 : Nat} {wr w2 w3 w4 : World} {sb tb : Nat} {v v' vo vo' rv : Value} {us us' rs : List Value} {L E : List Rl} {W : Int} {ver boot : Nat} {olds : List (List Rl)} (h : Kp n0 wr sb tb v vo rv us rs L W ver boot olds)
    (hs : Sto (fun b => okNew (okK n0 sb tb vo rv) wr b ∧ vo'.ownBlock ≠ some b) n0 w2 sb tb v' vo' us' E W (ver + 1) boot (olds ++ [E])) (hvo : ∀ b, vo'.ownBlock = some b → vo.ownBlock = some b ∨ wr.heap.size ≤ b) (hb : But (fun b => b = sb ∨ b = tb ∨ vo.ownBlock = some b) wr w2) (hE : Fb.Ok W E)
    {u : Value} (hr : RdsR (fun b => w2.heap.size ≤ b) w3 u E) (hb3 : Below w2.heap.size w2 w3) {gg cap : Nat} {t : TypeId} (hg : (w3.alloc (.cells #[u] t)).grownBy w4 rv.ownBlock) (hgg : rv.ownBlock = some gg ∨ gg = w3.heap.size + 1) (ho : w4.ownsRow n0 28 1 (.slice (some ⟨gg, 0, none⟩) (rs.length + 1) cap) (rs.length + 1) (rs ++ [u])) :
    Kp n0 w4 sb tb v' vo' (.slice (some ⟨gg, 0, none⟩) (rs.length + 1) cap) us' (rs ++ [u]) E W (ver + 1) boot (olds ++ [E]) := by
  have hsl := h.sto.slt
  have htl := h.sto.tab.lt
  have hs2 := hb.size
  have hs3 := hb3.size
  have hrl : ∀ b, rv.ownBlock = some b → n0 ≤ b ∧ b < wr.heap.size := fun b e => own_lt h.row e
  have hvl : ∀ b, vo'.ownBlock = some b → b < w2.heap.size := fun b e => (own_lt hs.own e).2
  have hvr : ∀ b, vo'.ownBlock = some b → rv.ownBlock ≠ some b := fun b e e2 => by
    rcases hvo b e with h1 | h1
    · exact (h.rne b e2).2.2 h1
    · have := (hrl b e2).2; omega
  have hgrow : But (fun k => rv.ownBlock = some k) w3 w4 := ⟨hg.os, hg.tape, hg.output, by have := hg.size; simp at this; omega, fun k hk hn => (hg.block k (by simp; omega) (fun e => hn e.symm)).trans (Below.heap_alloc _ _ _ hk)⟩
  have hggl : ∀ b, okK n0 sb tb vo rv b → b < w3.heap.size → gg ≠ b := fun b hb hl e => by
    rcases hgg with h1 | h1
    · exact hb.2.2.2.2 (e ▸ h1)
    · omega
  have hP : ∀ b, okNew (okK n0 sb tb vo rv) wr b ∧ vo'.ownBlock ≠ some b → b < w3.heap.size → okK n0 sb tb vo' (.slice (some ⟨gg, 0, none⟩) (rs.length + 1) cap) b := by
    rintro b ⟨h1 | h1, h2⟩ hl
    · exact ⟨h1.1.1, h1.1.2.1, h1.1.2.2.1, h2, fun e => hggl b h1.1 hl (by injection e)⟩
    · refine ⟨by have := h.sn; omega, by omega, by omega, h2, fun e => ?_⟩
      have e : gg = b := by injection e
      rcases hgg with h3 | h3
      · have := (hrl gg h3).2; omega
      · omega
  have hS3 := hs.below hb3
  have hS3' := hS3.toP (fun b => (okNew (okK n0 sb tb vo rv) wr b ∧ vo'.ownBlock ≠ some b) ∧ b < w3.heap.size) (fun b hb hl => ⟨hb, hl⟩) (fun b hb => hS3.ns b hb.1) (fun b hb => hS3.tab.no b hb.1) (fun b hb h1 => h1.1.2 hb)
  have hok2 : ∀ b, okNew (okK n0 sb tb vo rv) wr b → ¬ rv.ownBlock = some b := fun b hb e => by
    rcases hb with h1 | h1
    · exact h1.1.2.2.2.2 e
    · have := (hrl b e).2; omega
  have hS4 := hS3'.but hgrow (fun e => (h.rne sb e).1 rfl) (fun e => (h.rne tb e).2.1 rfl) (fun b hb e => hok2 b hb.1.1 e) (fun b hb e => hvr b hb e)
  have hS5 := hS4.toP (okK n0 sb tb vo' (.slice (some ⟨gg, 0, none⟩) (rs.length + 1) cap)) (fun b hb _ => hP b hb.1 hb.2) (fun b hb => hb.2.1) (fun b hb => hb.2.2.1) (fun b hb h1 => h1.2.2.2.1 hb)
  have hggn : gg ≠ sb ∧ gg ≠ tb ∧ vo'.ownBlock ≠ some gg := by
    rcases hgg with h1 | h1
    · exact ⟨(h.rne gg h1).1, (h.rne gg h1).2.1, fun e => hvr gg e h1⟩
    · exact ⟨by omega, by omega, fun e => by have := hvl gg e; omega⟩
  refine ⟨hS5, by rw [List.length_append, List.length_singleton]; exact ho, by simp [h.rlen], ?_, ?_, by simp [h.lv], ?_, hE, h.sn, h.tn⟩
  · intro i h1 h2
    by_cases hi : i < rs.length
    · have e1 : (rs ++ [u])[i] = rs[i] := List.getElem_append_left hi
      have e2 : (olds ++ [E])[i] = olds[i]'(by have := h.rlen; omega) := List.getElem_append_left _
      rw [e1, e2]
      have r0 := (h.rrd i hi (by have := h.rlen; omega)).lt
      have r1 := r0.but hb (fun b hb e => by
        rcases e with e | e | e
        · exact hb.1.2.1 e
        · exact hb.1.2.2.1 e
        · exact hb.1.2.2.2.1 e)
      have r2 := r1.below hb3
      have r3 := r2.but hgrow (fun b hb e => hb.1.2.2.2.2 e)
      exact r3.mono (fun b hb => hP b ⟨.inl hb, fun e => by
        rcases hvo b e with h4 | h4
        · exact hb.1.2.2.2.1 h4
        · have := hb.2; omega⟩ (by have := hb.2; omega))
    · have hi2 : i = rs.length := by simp at h1; omega
      subst hi2
      have e1 : (rs ++ [u])[rs.length] = u := by simp
      have e2 : (olds ++ [E])[rs.length] = E := by simp [h.rlen]
      rw [e1, e2]
      have r3 := hr.lt.but hgrow (fun b hb e => by have := (hrl b e).2; have h4 : w2.heap.size ≤ b := hb.1; omega)
      exact r3.mono (fun b hb => by
        have h4 : w2.heap.size ≤ b := hb.1
        exact hP b ⟨.inr (by omega), fun e => by have := hvl b e; omega⟩ hb.2)
  · intro b hb
    injection hb with hb
    have hb : gg = b := hb
    subst hb
    exact hggn
  · intro l hl
    rcases List.mem_append.1 hl with hl | hl
    · exact h.few l hl
    · rw [List.mem_singleton] at hl
      subst hl
      exact hE.few
end Go.Proofs.Ytlbelkjgaeaaeaa
/-
  The law StoreKept: its walk.
-/
namespace Go.Proofs.Ytlbelkjgaeaaeaa
open Go.RowKit Go.Shelf Go.Lib Go.Sort
set_option linter.unusedVariables false
set_option linter.unusedSectionVars false
set_option linter.unusedSimpArgs false

/-- An act of a script. -/
structure Opx where
  k : Int
  m : List (Int × Rl)
  back : Int
  hdr : ByteArray

/-- v reads as acts. -/
def RdsOps (w : World) (v : Value) (os : List Opx) : Prop :=
  ∃ ad n cap, v = .slice ad n cap ∧ n = os.length ∧ n ≤ maxLen ∧ ∀ i (h : i < os.length), ∃ b off cv, ad = some ⟨b, off, none⟩ ∧ b < w.heap.size ∧ w.cell? ⟨b, off + i * 4, none⟩ = some (.int .i64 os[i].k) ∧ w.cell? ⟨b, off + i * 4 + 1, none⟩ = some cv ∧
    w.cell? ⟨b, off + i * 4 + 2, none⟩ = some (.int .u64 os[i].back) ∧ w.cell? ⟨b, off + i * 4 + 3, none⟩ = some (.string os[i].hdr) ∧ RdsC (fun _ => True) w cv os[i].m ∧ os[i].m.length * 64 ≤ 140737488351232 ∧ os[i].hdr.size ≤ maxLen

set_option maxHeartbeats 800000 in
set_option maxRecDepth 20000 in
theorem install_none {ok ok2 : Nat → Prop} {base : Nat} {w : World} {sb tb : Nat} {v vo : Value} {us : List Value} {L : List Rl} {W : Int} {ver boot : Nat} {olds : List (List Rl)} (h : Sto ok base w sb tb v vo us L W ver boot olds) {cv : Value} (hc : RdsC ok2 w cv []) :
    Calls Try.prog 10 #[.pointer (some ⟨sb, 0, none⟩), cv] w fun e w' => e = .returned (.tuple #[.int .u64 0, .int .i64 0, .int .i64 1]) ∧ w = w' := by
  have HM := Lib.hid (made_sto h)
  obtain ⟨ad, cap, rfl, _, _⟩ := hc.form
  clear h hc
  go_enter Try.func10, Try.ntmps10
  go_wp2_with fail
  refine HM.out.mono ?_
  rintro e w1 ⟨rfl, rfl⟩
  go_wp2_with fail
  refine bodyPost_ret (v := .tuple #[.int .u64 0, .int .i64 0, .int .i64 1]) (by simp [results, go_sem]) rfl ?_
  exact ⟨rfl, rfl⟩

/-- At the beginning. -/
theorem Kp.start {n0 : Nat} {w1 w2 : World} {sb tb : Nat} {vo : Value} {us : List Value} {W : Int} (hs : Sto (fun _ => False) n0 w1 sb tb (.slice none 0 0) vo us [] W 0 1 [[]]) (hb : Below w1.heap.size w1 w2) {u : Value} (hr : RdsR (fun b => w1.heap.size ≤ b) w2 u []) (h1 : n0 ≤ sb) (h2 : n0 ≤ tb) (h3 : n0 ≤ w1.heap.size) :
    Kp n0 (w2.alloc (.cells #[u] 28)) sb tb (.slice none 0 0) vo (.slice (some ⟨w2.heap.size, 0, none⟩) 1 1) us [u] [] W 0 1 [[]] := by
  have hsz := hb.size
  have hsl := hs.slt
  have htl := hs.tab.lt
  have hba : Below w2.heap.size w2 (w2.alloc (.cells #[u] 28)) := (Below.refl _ _).alloc (Nat.le_refl _) _
  have hvl : ∀ b, vo.ownBlock = some b → b < w1.heap.size := fun b e => (own_lt hs.own e).2
  refine ⟨((hs.below hb).below hba).toP _ (fun b h => h.elim) (fun b hb => hb.2.1) (fun b hb => hb.2.2.1) (fun b hb h => h.2.2.2.1 hb), ?_, rfl, ?_, ?_, rfl, by simp, Fb.ok_nil W, h1, h2⟩
  · refine ⟨rfl, .inr ⟨w2.heap.size, 1, #[u], rfl, by omega, heap_alloc_new _ _, Nat.le_refl _, by unfold maxLen; omega, rfl, rfl⟩⟩
  · intro i hi hi'
    have : i = 0 := by simpa using hi
    subst this
    refine (hr.lt.below hba).mono fun b hb => ?_
    have h4 : w1.heap.size ≤ b := hb.1
    exact ⟨by omega, by omega, by omega, fun e => by have := hvl b e; omega, fun e => by
      have e : w2.heap.size = b := by injection e
      have := hb.2
      omega⟩
  · intro b hb
    injection hb with hb
    have hb : w2.heap.size = b := hb
    subst hb
    exact ⟨by omega, by omega, fun e => by have := hvl _ e; omega⟩
end Go.Proofs.Ytlbelkjgaeaaeaa
/-
  The law StoreKept: its walk.
-/
namespace Go.Proofs.Ytlbelkjgaeaaeaa
open Go.RowKit Go.Shelf Go.Lib Go.Sort
set_option linter.unusedVariables false
set_option linter.unusedSectionVars false
set_option linter.unusedSimpArgs false

theorem own_cell {w : World} {base : Nat} {e : TypeId} {va : Option Addr} {n vc : Nat} {xs : List Value} (h : w.ownsRow base e 1 (.slice va n vc) n xs) (k : Nat) (hk : k < xs.length) : ∃ g, va = some ⟨g, 0, none⟩ ∧ g < w.heap.size ∧ w.cell? ⟨g, k, none⟩ = some xs[k] := by
  have hl := h.1
  rcases h.2 with ⟨h1, h2⟩ | ⟨g, cap, cur, hv', hg, hh, hn, hc, hs, ht⟩
  · omega
  · injection hv' with e1 _ _
    refine ⟨g, e1, (Array.getElem?_eq_some_iff.1 hh).1, ?_⟩
    have h3 : (cur.toList.take (n * 1))[k]? = xs[k]? := by rw [ht]
    rw [List.getElem?_take_of_lt (by omega), List.getElem?_eq_getElem hk] at h3
    simpa [World.cell?, hh] using h3

theorem at_place {ok : Nat → Prop} {base : Nat} {w : World} {sb tb : Nat} {v vo : Value} {us : List Value} {L : List Rl} {W : Int} {ver boot : Nat} {olds : List (List Rl)} (h : Sto ok base w sb tb v vo us L W ver boot olds) (x : Nat) (hl : olds.length = ver + 1) (hx : x < olds.length) (hv : ver ≤ 4000) (hf : ∀ l ∈ olds, l.length ≤ 4096) :
    Calls Try.prog 11 #[.pointer (some ⟨sb, 0, none⟩), .int .u64 x] w fun e w' => ∃ ad c, e = .returned (.tuple #[.slice ad olds[x].length c, .int .i64 0]) ∧ RdsR (fun b => w.heap.size ≤ b) w' (.slice ad olds[x].length c) olds[x] ∧ Below w.heap.size w w' := by
  have h1 := at_good h x (by omega) (by omega) (by omega) (by omega) hf
  have e : olds[olds.length - 1 - (ver - x)]'(by omega) = olds[x] := by congr 1; omega
  rw [e] at h1
  exact h1

set_option maxHeartbeats 12800000 in
set_option maxRecDepth 20000 in
theorem StoreKept_walk (W : Int) (sv : Value) (os : List Opx) (w : World) (hsv : RdsOps w sv os) : Calls Try.prog 3 #[.int .i64 W, sv] w fun e w' => e = .returned (.bool true) ∧ Below w.heap.size w w' := by
  obtain ⟨oa, n, oc, rfl, hn, hnm, hcell⟩ := hsv
  have HC := Lib.hid hcell
  have HN := Lib.hid hn
  unfold maxLen at hnm
  clear hcell hn
  by_cases hW : 1 ≤ W ∧ W ≤ 128
  · have HNw := Lib.hid (snew_ok W w w.heap.size (Nat.le_refl _) hW.1 hW.2)
    go_enter Try.func3, Try.ntmps3
    go_wp2_with fail
    refine HNw.out.mono ?_
    rintro e w1 ⟨rfl, hS1, hb1, hs1⟩
    have HS1 := Lib.hid hS1
    have HB1 := Lib.hid hb1
    have Hs1 := Lib.hid hs1
    have HRu := Lib.hid (rules_sto hS1 (by simp))
    clear hS1 hb1 hs1
    go_wp2_with fail
    refine HRu.out.mono ?_
    rintro e w2 ⟨ad2, c2, rfl, hr2, hb2⟩
    have hK := Kp.start HS1.out hb2 hr2 (by omega) (Nat.le_refl _) HB1.out.size
    have hbK : Below w.heap.size w (w2.alloc (.cells #[.slice ad2 ([] : List Rl).length c2] 28)) := (HB1.out.trans (hb2.mono HB1.out.size)).alloc (by have := HB1.out.size; have := hb2.size; omega) _
    have HK := Lib.hid hK
    have HBK := Lib.hid hbK
    obtain ⟨N, hN⟩ : ∃ N, w.heap.size = N := ⟨_, rfl⟩
    have HN0 := Lib.hid hN
    clear hr2 hb2 hK hbK
    rw [hN] at HK
    go_wp2_with fail
    clear hN
    go_loopw [7, 8] (fun s7 s8 wr => ∃ (i m c : Nat) (ra : Option Addr) (v vo : Value) (us rs : List Value) (L : List Rl) (ver : Nat) (olds : List (List Rl)), s8 = .int .i64 i ∧ s7 = .slice ra m c ∧ i ≤ n ∧ i ≤ 60 ∧ m ≤ i + 1 ∧ Hid (m = rs.length) ∧ Hid (Kp N wr (N + 2) N v vo (.slice ra m c) us rs L W ver 1 olds) ∧ Hid (Below N w wr)) (fun _ s8 _ => n - (intOf s8).toNat)
    case atStart =>
      refine ⟨0, 1, 1, _, _, _, _, _, _, _, _, rfl, rfl, Nat.zero_le _, by omega, Nat.le_refl _, ?_, HK, ?_⟩
      · exact (rfl : (1 : Nat) = 1)
      · show Below _ _ _
        rw [← HN0.out]; exact HBK.out
    case round =>
      clear HK HBK
      obtain ⟨wo, rfl⟩ : ∃ wo : World, wo = wr := ⟨wr, rfl⟩
      obtain ⟨i, m, c, ra, v, vo, us, rs, L, ver, olds, rfl, rfl, hin, hi60, hmi, hmr, hK, hBw⟩ := hrel
      have hver : ver + 1 = m := by have h1 := hK.out.lv; have h2 := hK.out.rlen; have := hmr.out; omega
      have holds : olds.length = m := by have h1 := hK.out.lv; omega
      have HOl := Lib.hid holds
      clear holds
      by_cases hlt : i < n ∧ i < 60
      · obtain ⟨hlt, h60⟩ := hlt
        have hiz : (i : Int) < (n : Int) := by omega
        have hi6 : (i : Int) < 60 := by omega
        have hio : i < os.length := by rw [← HN.out]; exact hlt
        obtain ⟨b, off, cv, rfl, hbl, _, k1, _, _, hrc, hml, _⟩ := HC.out i hio
        obtain ⟨o, ho⟩ : ∃ o, os[i] = o := ⟨_, rfl⟩
        rw [ho] at hrc hml
        have hBw' : Below w.heap.size w wo := by rw [HN0.out]; exact hBw.out
        have k1' := (hBw'.cell (p := ⟨b, off + i * 4 + 1, none⟩) hbl).trans k1
        have hrc' := hrc.below hBw'
        have HV := Lib.hid (version_sto hK.out.sto)
        have HRc := Lib.hid hrc'
        obtain ⟨acv, ccv, hcv, _, _⟩ := hrc.form
        clear ho hrc hrc' hBw' k1
        go_wp2_with fail
        refine HV.out.mono ?_
        rintro e w3 ⟨rfl, rfl⟩
        by_cases hm0 : o.m = []
        · have HI := Lib.hid (install_none hK.out.sto (by have := HRc.out; rwa [hm0] at this))
          clear hm0
          subst hcv
          go_wp2_with fail
          refine HI.out.mono ?_
          rintro e w3 ⟨rfl, rfl⟩
          go_wp2_with fail
          refine HV.out.mono ?_
          rintro e w3 ⟨rfl, rfl⟩
          go_wp2_with fail
          go_roundw
          case rel => exact ⟨i + 1, m, c, ra, v, vo, us, rs, L, ver, olds, by go_num, rfl, by omega, by omega, by omega, hmr, hK, hBw⟩
          case measure => simp [intOf]; omega
        · by_cases hd : (Fb.doL W L o.m 0).2.2 = 0
          · have HI := Lib.hid (install_good hK.out.sto HRc.out hml hm0 hK.out.okL hd (by omega) (by have := HOl.out; omega) (by have := hBw.out.size; have := HN0.out; omega))
            have hE := hK.out.okL.end_ o.m
            have HE := Lib.hid hE
            obtain ⟨E, hEe⟩ : ∃ E, Fb.endL W L o.m = E := ⟨_, rfl⟩
            rw [hEe] at HE HI
            have hwr : IntKind.u64.wrap ((ver : Int) + 1) = (ver : Int) + 1 := by
              unfold IntKind.wrap
              simp [IntKind.signed, IntKind.bits]
              omega
            obtain ⟨i0, hi, hi0, hi1, hi2⟩ := info_parts infoRls
            clear hm0 hE hEe hd
            subst hcv
            go_wp2_with fail
            refine HI.out.mono ?_
            rintro e w3 ⟨rfl, ⟨v3, vo3, us3, hS3, hvo3⟩, hbt3⟩
            have hv3 := version_sto hS3
            rw [show ((ver + 1 : Nat) : Int) = (ver : Int) + 1 by omega] at hv3
            have HV3 := Lib.hid hv3
            have HR3 := Lib.hid (rules_sto hS3 HE.out.few)
            have HS3 := Lib.hid hS3
            have HVo3 := Lib.hid hvo3
            have HBt3 := Lib.hid hbt3
            have HO3 : Hid (w3.ownsRow N 28 1 (.slice ra m c) m rs) := by
              have h1 := ownsRow_butS hK.out.row hbt3 (fun b hb e => by
                have := hK.out.rne b hb
                rcases e with e | e | e
                · exact this.1 e
                · exact this.2.1 e
                · exact this.2.2 e)
              rwa [← hmr.out] at h1
            have HB3 : Hid (Below N w w3) := hBw.out.trans (hbt3.toBelow (by have := hBw.out.size; have := HN0.out; omega) (fun k hk => by
              rcases hk with e | e | e
              · omega
              · omega
              · exact (own_lt hK.out.sto.own e).1))
            clear hS3 hvo3 hbt3 hv3
            go_wp2_with fail
            refine HV3.out.mono ?_
            rintro e w4 ⟨rfl, rfl⟩
            go_wp2_with fail
            refine HR3.out.mono ?_
            rintro e w5 ⟨ad5, c5, rfl, hr5, hb5⟩
            have HR5 := Lib.hid hr5
            have HB5 := Lib.hid hb5
            have HOw : Hid ((w5.alloc (.cells #[.slice ad5 E.length c5] 28)).ownsRow N 28 1 (.slice ra m c) m rs) := (ownsRow_below HO3.out hb5).alloc _
            have hNs : N ≤ w5.heap.size := by have := HB3.out.size; have := hb5.size; have := HN0.out; omega
            clear hr5 hb5
            go_wp2_with (at_builtin; refine wpList_append_lies _ rfl (.tmp 71) (.tmp 74) 30 rfl N 28 i0 _ 1 24 Try.underlying30 hi hi0 hi1 hi2 rfl (by omega) (.slice ra m c) m rs (by rfl) HOw.out ⟨w5.heap.size, 0, none⟩ 1 1 [.slice ad5 E.length c5] (by rfl) (by rfl) (World.news_of_block (cs := #[.slice ad5 E.length c5]) (t := 28) (fr := (0, 0)) (heap_alloc_new w5 _)) (by simp [Value.oneCell']) (by omega) (by unfold maxLen; omega) (by omega) (by simp; omega) (w5.heap.size + 1) (by simp) ?_; intro gg cap6 w6 hown6 hgrow hat hlt6; have HO6 := Lib.hid hown6; have HG6 := Lib.hid hgrow; have HAt := Lib.hid hat; clear hown6 hgrow hat hlt6)
            have hK6 : Kp N w6 (N + 2) N v3 vo3 (.slice (some ⟨gg, 0, none⟩) (m + 1) cap6) us3 (rs ++ [.slice ad5 E.length c5]) E W (ver + 1) 1 (olds ++ [E]) := by
              have h1 := hK.out.good HS3.out HVo3.out HBt3.out HE.out HR5.out HB5.out HG6.out HAt.out (by rw [← hmr.out]; exact HO6.out)
              rwa [← hmr.out] at h1
            have hB6 : Below N w w6 := ((HB3.out.trans (HB5.out.mono (by have := HB3.out.size; have := HN0.out; omega))).alloc (by have := HB5.out.size; have := HB3.out.size; have := HN0.out; omega) (.cells #[.slice ad5 E.length c5] 28)).grown HG6.out (by simp; omega) (fun k hk => (own_lt HOw.out hk).1)
            have HK6 := Lib.hid hK6
            have HB6 := Lib.hid hB6
            clear hK6 hB6
            go_roundw
            case rel =>
              refine ⟨i + 1, m + 1, cap6, some ⟨gg, 0, none⟩, v3, vo3, us3, _, E, ver + 1, olds ++ [E], by go_num, rfl, by omega, by omega, by omega, ?_, HK6, HB6⟩
              show _ = _
              rw [List.length_append, ← hmr.out]; rfl
            case measure => simp [intOf]; omega
          · have HI := Lib.hid (install_bad hK.out.sto HRc.out hml hm0 hK.out.okL hd)
            have hq1 : ((Fb.doL W L o.m 0).2.2 == 0) = false := by simpa using hd
            have hq2 : ((Fb.doL W L o.m 0).2.2 != 0) = true := by simpa using hd
            clear hm0
            subst hcv
            go_wp2_with fail
            refine HI.out.mono ?_
            rintro e w3 ⟨rfl, ⟨v3, hS3⟩, hbt3⟩
            have hK3 := hK.out.bad hS3 hbt3
            have hB3 : Below N w w3 := hBw.out.trans (hbt3.toBelow (by have := hBw.out.size; have := HN0.out; omega) (fun k hk => by omega))
            have HK3 := Lib.hid hK3
            have HB3 := Lib.hid hB3
            have HV3 := Lib.hid (version_sto hS3)
            clear hS3 hbt3 hK3 hB3 hd
            go_wp2_with fail
            refine HV3.out.mono ?_
            rintro e w4 ⟨rfl, rfl⟩
            go_wp2_with fail
            go_roundw
            case rel => exact ⟨i + 1, m, c, ra, v3, vo, us, rs, L, ver, olds, by go_num, rfl, by omega, by omega, by omega, hmr, HK3, HB3⟩
            case measure => simp [intOf]; omega
      · have hcase : (i : Int) < (n : Int) ∧ decide ((i : Int) < 60) = false ∨ decide ((i : Int) < (n : Int)) = false ∧ ¬ i < n := by
          by_cases h : i < n
          · exact .inl ⟨by omega, by simp; omega⟩
          · exact .inr ⟨by simp; omega, h⟩
        have hrs : rs.length = m := hmr.out.symm
        clear hlt
        rcases hcase with ⟨h1, h2⟩ | ⟨h1, h2⟩
        all_goals
          go_wp2_with fail
          go_loopw [13] (fun s13 wr => ∃ q : Nat, q ≤ m ∧ s13 = .int .i64 q ∧ Hid (Below wo.heap.size wo wr)) (fun s13 _ => m - (intOf s13).toNat)
          case atStart => exact ⟨0, Nat.zero_le _, rfl, Below.refl _ _⟩
          case round =>
            obtain ⟨q, hq, rfl, hBq⟩ := hrel
            have hKq := Lib.hid (hK.out.below hBq.out)
            by_cases hqm : q < m
            · have hqz : (q : Int) < (m : Int) := by omega
              have hqo : q < olds.length := by have := HOl.out; omega
              have hqr : q < rs.length := by omega
              have hwq : IntKind.u64.wrap (q : Int) = (q : Int) := by
                unfold IntKind.wrap
                simp [IntKind.signed, IntKind.bits]
                omega
              have hAt := at_place hKq.out.sto q hKq.out.lv hqo (by omega) hKq.out.few
              have hrd := hKq.out.rrd q hqr hqo
              obtain ⟨R, hR⟩ : ∃ R, olds[q] = R := ⟨_, rfl⟩
              rw [hR] at hAt hrd
              obtain ⟨adq, capq, hrq, _, _⟩ := hrd.form
              rw [hrq] at hrd
              have hrow := hKq.out.row
              rw [hrs] at hrow
              obtain ⟨g, rfl, hgl, hgc⟩ := own_cell hrow q hqr
              rw [hrq] at hgc
              have HAt := Lib.hid hAt
              have HRd := Lib.hid hrd
              clear hAt hrd hR hrq hrow
              go_wp2_with fail
              refine HAt.out.mono ?_
              rintro e w7 ⟨ad7, c7, rfl, hr7, hb7⟩
              have hgc7 := (hb7.cell (p := ⟨g, q, none⟩) hgl).trans hgc
              have HSm := Lib.hid (sameRules_same _ _ _ _ _ w7 hr7 (HRd.out.below hb7))
              have HB7 := Lib.hid (hBq.out.trans (hb7.mono hBq.out.size))
              clear hr7 hb7
              go_wp2_with fail
              refine HSm.out.mono ?_
              rintro e w8 ⟨rfl, hg8⟩
              have HB8 := Lib.hid (HB7.out.trans (hg8.below.mono HB7.out.size))
              clear hg8
              go_wp2_with fail
              go_roundw
              case rel => exact ⟨q + 1, by omega, by go_num, HB8⟩
              case measure => simp [intOf]; omega
            · have hqz : decide ((q : Int) < (m : Int)) = false := by simp; omega
              have hwm : IntKind.u64.wrap (m : Int) = (m : Int) := by
                unfold IntKind.wrap
                simp [IntKind.signed, IntKind.bits]
                omega
              have HAt := Lib.hid (at_bad hKq.out.sto m (.inl (by omega)) (by omega) (by have := HOl.out; omega))
              go_wp2_with fail
              refine HAt.out.mono ?_
              rintro e w7 ⟨rfl, hb7⟩
              have HB7 := Lib.hid (hBq.out.trans (hb7.mono hBq.out.size))
              clear hb7
              go_wp2_with fail
              refine (alive_any _).mono ?_
              rintro e w8 ⟨rfl, hb8⟩
              have HB8 := Lib.hid (HB7.out.trans (hb8.mono HB7.out.size))
              have HBf : Hid (Below w.heap.size w w8) := by
                show Below _ _ _
                rw [HN0.out]
                exact hBw.out.trans (HB8.out.mono (by have := hBw.out.size; have := HN0.out; omega))
              clear hb8
              go_wp2_with fail
              go_ret
              exact ⟨rfl, HBf.out⟩
  · have HNw := Lib.hid (fun w => snew_bad W w (by omega))
    go_enter Try.func3, Try.ntmps3
    go_wp2_with fail
    refine (HNw.out _).mono ?_
    rintro e w1 ⟨rfl, rfl⟩
    go_wp2_with fail
    refine (alive_any _).mono ?_
    rintro e w2 ⟨rfl, hb2⟩
    have HB2 := Lib.hid hb2
    clear hb2
    go_wp2_with fail
    go_ret
    exact ⟨rfl, HB2.out⟩
end Go.Proofs.Ytlbelkjgaeaaeaa
/-
  Walks over the reference of store: what a store holds; New, Rules.
-/
namespace Go.Proofs.Ytlbelkjgaeaaeaa
open Go.RowKit Go.Shelf Go.Lib Go.Sort
set_option linter.unusedVariables false
set_option linter.unusedSectionVars false
set_option linter.unusedSimpArgs false

/-- The reference's store in block sb, its table in block tb: its four cells, and what they read as. -/
structure RSto (ok : Nat → Prop) (base : Nat) (w : World) (sb tb : Nat) (v vo : Value) (us : List Value) (L : List Rl) (W : Int) (ver boot : Nat) (olds : List (List Rl)) : Prop where
  c0 : w.cell? ⟨sb, 0, none⟩ = some (.pointer (some ⟨tb, 0, none⟩))
  c1 : w.cell? ⟨sb, 1, none⟩ = some (.int .u64 ver)
  c2 : w.cell? ⟨sb, 2, none⟩ = some (.int .u32 boot)
  c3 : w.cell? ⟨sb, 3, none⟩ = some vo
  f1 : w.frozen? ⟨sb, 1, none⟩ = false
  f2 : w.frozen? ⟨sb, 2, none⟩ = false
  f3 : w.frozen? ⟨sb, 3, none⟩ = false
  tab : Tab 1 0 ok w tb v L W
  own : w.ownsRow base 28 1 vo us.length us
  len : us.length = olds.length
  rd : ∀ i (h : i < us.length) (h' : i < olds.length), RdsR ok w us[i] olds[i]
  ns : ∀ b, ok b → b ≠ sb
  ne : sb ≠ tb
  nv : ∀ b, vo.ownBlock = some b → ¬ ok b ∧ b ≠ sb ∧ b ≠ tb

theorem RSto.slt {ok : Nat → Prop} {base : Nat} {w : World} {sb tb : Nat} {v vo : Value} {us : List Value} {L : List Rl} {W : Int} {ver boot : Nat} {olds : List (List Rl)} (h : RSto ok base w sb tb v vo us L W ver boot olds) : sb < w.heap.size := cell_lt h.c0

theorem RSto.but {ok S : Nat → Prop} {base : Nat} {w w' : World} {sb tb : Nat} {v vo : Value} {us : List Value} {L : List Rl} {W : Int} {ver boot : Nat} {olds : List (List Rl)} (h : RSto ok base w sb tb v vo us L W ver boot olds) (hb : But S w w') (h1 : ¬ S sb) (h2 : ¬ S tb) (h3 : ∀ b, ok b → ¬ S b) (h4 : ∀ b, vo.ownBlock = some b → ¬ S b) : RSto ok base w' sb tb v vo us L W ver boot olds := by
  have hl := h.slt
  exact ⟨(hb.cell (p := ⟨sb, 0, none⟩) hl h1).trans h.c0, (hb.cell (p := ⟨sb, 1, none⟩) hl h1).trans h.c1, (hb.cell (p := ⟨sb, 2, none⟩) hl h1).trans h.c2, (hb.cell (p := ⟨sb, 3, none⟩) hl h1).trans h.c3, (hb.frozen (p := ⟨sb, 1, none⟩) hl h1).trans h.f1, (hb.frozen (p := ⟨sb, 2, none⟩) hl h1).trans h.f2, (hb.frozen (p := ⟨sb, 3, none⟩) hl h1).trans h.f3,
    h.tab.but hb h2 h3, ownsRow_butS h.own hb h4, h.len, fun i a b => (h.rd i a b).but hb h3, h.ns, h.ne, h.nv⟩
theorem RSto.below {ok : Nat → Prop} {base : Nat} {w w' : World} {sb tb : Nat} {v vo : Value} {us : List Value} {L : List Rl} {W : Int} {ver boot : Nat} {olds : List (List Rl)} (h : RSto ok base w sb tb v vo us L W ver boot olds) (hb : Below w.heap.size w w') : RSto ok base w' sb tb v vo us L W ver boot olds :=
  h.but (S := fun _ => False) (But.below hb) (fun h => h) (fun h => h) (fun _ _ h => h) (fun _ _ h => h)

set_option maxHeartbeats 800000 in
set_option maxRecDepth 20000 in
theorem rsnew_bad (W : Int) (w : World) (h : W < 1 ∨ W > 128) :
    Calls Try.prog 13 #[.int .i64 W] w fun e w' => e = .returned (.tuple #[.pointer none, .int .i64 1]) ∧ w = w' := by
  have HN := Lib.hid (fun w => rNew_bad W w h)
  clear h
  go_enter Try.func13, Try.ntmps13
  go_wp2_with fail
  refine (HN.out _).mono ?_
  rintro e w1 ⟨rfl, rfl⟩
  go_wp2_with fail
  go_ret2
  exact ⟨rfl, rfl⟩

set_option maxHeartbeats 1600000 in
set_option maxRecDepth 20000 in
theorem rsnew_ok (W : Int) (w : World) (base : Nat) (hbase : base ≤ w.heap.size) (h1 : 1 ≤ W) (h2 : W ≤ 128) :
    Calls Try.prog 13 #[.int .i64 W] w fun e w' => e = .returned (.tuple #[.pointer (some ⟨w.heap.size + 2, 0, none⟩), .int .i64 0]) ∧
      RSto (fun _ => False) base w' (w.heap.size + 2) w.heap.size (.slice none 0 0) (.slice (some ⟨w.heap.size + 1, 0, none⟩) 1 1) [.slice none 0 0] [] W 0 1 [[]] ∧ Below w.heap.size w w' ∧ w'.heap.size = w.heap.size + 3 := by
  have HN := Lib.hid (fun w => rNew_ok W w h1 h2)
  have H1 := Lib.hid h1
  have H2 := Lib.hid h2
  clear h1 h2
  go_enter Try.func13, Try.ntmps13
  go_wp2_with fail
  refine (HN.out _).mono ?_
  rintro e w1 ⟨rfl, rfl⟩
  go_wp2_with fail
  go_ret2
  have hb1 : Below w.heap.size w (w.alloc (.cells #[.int .i64 W, .slice none 0 0] 84)) := (Below.refl _ _).alloc (Nat.le_refl _) _
  refine ⟨by simp, ⟨?_, ?_, ?_, ?_, ?_, ?_, ?_, ?_, ?_, rfl, ?_, fun b h => h.elim, by omega, ?_⟩, (hb1.alloc (by simp) _).alloc (by simp; omega) _, by simp⟩
  · simp [go_sem]
  · simp [go_sem]
  · simp [go_sem]
  · simp [go_sem]
  · simp [go_sem]
  · simp [go_sem]
  · simp [go_sem]
  · exact (((rtab_new w W H1.out H2.out).below ((Below.refl _ _).alloc (Nat.le_refl _) _)).below ((Below.refl _ _).alloc (Nat.le_refl _) _)).mono (fun _ h => h.elim) (fun _ h => h.elim)
  · refine ⟨rfl, .inr ⟨w.heap.size + 1, 1, #[.slice none 0 0], rfl, by omega, ?_, Nat.le_refl _, by unfold maxLen; omega, rfl, rfl⟩⟩
    have h3 : (w.alloc (.cells #[.int .i64 W, .slice none 0 0] 84)).heap.size = w.heap.size + 1 := by simp
    have h4 := heap_alloc_new (w.alloc (.cells #[.int .i64 W, .slice none 0 0] 84)) (.cells #[.slice none 0 0] 28)
    rw [h3] at h4
    exact (Below.heap_alloc _ _ _ (by simp)).trans h4
  · intro i h h'
    have : i = 0 := by simpa using h
    subst this
    exact ⟨[], none, 0, 0, rfl, rfl, rfl, ⟨Nat.le_refl _, fun _ => rfl⟩, Nat.zero_le _, okV_nil _ _ _, fun i h => absurd h (Nat.not_lt_zero _), fun i h => absurd h (Nat.not_lt_zero _)⟩
  · intro b hb
    injection hb with hb
    have hb : w.heap.size + 1 = b := hb
    subst hb
    exact ⟨fun h => h, by omega, by omega⟩

set_option maxHeartbeats 800000 in
set_option maxRecDepth 20000 in
theorem rsrules_tab {ok : Nat → Prop} {w : World} {sb tb : Nat} {v : Value} {L : List Rl} {W : Int} (c0 : w.cell? ⟨sb, 0, none⟩ = some (.pointer (some ⟨tb, 0, none⟩))) (h : Tab 1 0 ok w tb v L W) (hL : Fb.Ok W L) :
    Calls Try.prog 15 #[.pointer (some ⟨sb, 0, none⟩)] w fun e w' => ∃ ad c, e = .returned (.slice ad L.length c) ∧ RdsR (fun b => w.heap.size ≤ b ∨ (ok b ∧ b < w.heap.size)) w' (.slice ad L.length c) L ∧ Below w.heap.size w w' := by
  have hO := rOrder_rules ok v L w h.rd (by have := hL.few; omega)
  rw [St.isort_srd swoR (Fb.strict_srd hL.strict)] at hO
  have HO := Lib.hid hO
  have c1 := h.c0
  obtain ⟨va, vc, rfl, _, _⟩ := h.rd.form
  clear hO h
  go_enter Try.func15, Try.ntmps15
  go_wp2_with fail
  refine HO.out.mono ?_
  rintro e w2 ⟨v', rfl, hr, hb⟩
  obtain ⟨a2, c2, rfl, _, _⟩ := hr.form
  have HR := Lib.hid hr
  have HB := Lib.hid hb
  clear hr hb
  go_wp2_with fail
  go_ret
  exact ⟨a2, c2, rfl, HR.out, HB.out⟩
end Go.Proofs.Ytlbelkjgaeaaeaa
/-
  Walks over the reference of store: Install.
-/
namespace Go.Proofs.Ytlbelkjgaeaaeaa
open Go.RowKit Go.Shelf Go.Lib Go.Sort
set_option linter.unusedVariables false
set_option linter.unusedSectionVars false
set_option linter.unusedSimpArgs false
attribute [local go_sem] Oper.semAt_some

/-- Another table in the same store. -/
theorem RSto.setTab {ok ok' S : Nat → Prop} {base : Nat} {w w' : World} {sb tb : Nat} {v v' vo : Value} {us : List Value} {L L' : List Rl} {W : Int} {ver boot : Nat} {olds : List (List Rl)} (h : RSto ok base w sb tb v vo us L W ver boot olds) (hb : But S w w') (h1 : ¬ S sb) (h3 : ∀ b, ok b → ¬ S b) (h4 : ∀ b, vo.ownBlock = some b → ¬ S b)
    (hT : Tab 1 0 ok' w' tb v' L' W) (hk : ∀ b, ok b → b < w.heap.size → ok' b) (hns : ∀ b, ok' b → b ≠ sb) (hnv : ∀ b, vo.ownBlock = some b → ¬ ok' b) : RSto ok' base w' sb tb v' vo us L' W ver boot olds := by
  have hl := h.slt
  exact ⟨(hb.cell (p := ⟨sb, 0, none⟩) hl h1).trans h.c0, (hb.cell (p := ⟨sb, 1, none⟩) hl h1).trans h.c1, (hb.cell (p := ⟨sb, 2, none⟩) hl h1).trans h.c2, (hb.cell (p := ⟨sb, 3, none⟩) hl h1).trans h.c3, (hb.frozen (p := ⟨sb, 1, none⟩) hl h1).trans h.f1, (hb.frozen (p := ⟨sb, 2, none⟩) hl h1).trans h.f2, (hb.frozen (p := ⟨sb, 3, none⟩) hl h1).trans h.f3,
    hT, ownsRow_butS h.own hb h4, h.len, fun i a b => (((h.rd i a b).lt.but hb fun k hk' => h3 k hk'.1).mono fun k hk' => hk k hk'.1 hk'.2), hns, h.ne, fun b hb => ⟨hnv b hb, (h.nv b hb).2⟩⟩

/-- A refused install. -/
theorem rinstall_bad {ok ok2 : Nat → Prop} {base : Nat} {w : World} {sb tb : Nat} {v vo : Value} {us : List Value} {L : List Rl} {W : Int} {ver boot : Nat} {olds : List (List Rl)} (h : RSto ok base w sb tb v vo us L W ver boot olds) {cv : Value} {m : List (Int × Rl)} (hc : RdsC ok2 w cv m) (hm : m.length * 64 ≤ 140737488351232) (hm0 : m ≠ []) (hL : Fb.Ok W L) (hd : ¬ (Fb.doL W L m 0).2.2 = 0) :
    Calls Try.prog 14 #[.pointer (some ⟨sb, 0, none⟩), cv] w fun e w' => e = .returned (.tuple #[.int .u64 0, .int .i64 (Fb.doL W L m 0).2.1, .int .i64 (Fb.doL W L m 0).2.2]) ∧ (∃ v', RSto (okNew ok w) base w' sb tb v' vo us L W ver boot olds) ∧ But (fun b => b = tb) w w' := by
  have HD := Lib.hid (rDo_tab h.tab hc hm hL)
  obtain ⟨ad, cap, rfl, _, _⟩ := hc.form
  have c0 := h.c0
  have H := Lib.hid h
  have hE : Fb.endL W L m = L := by
    unfold Fb.endL
    cases e : (Fb.doL W L m 0).1 with
    | none => rfl
    | some L' => exact absurd (Fb.doL_err.2 (by rw [e]; rfl)) hd
  have HE := Lib.hid hE
  have hz : ((m.length : Int) == 0) = false := by
    have := List.length_pos_iff.2 hm0
    simp; omega
  have hz2 : (m.length == 0) = false := by simpa using hm0
  obtain ⟨j, hj⟩ : ∃ j, (Fb.doL W L m 0).2.1 = j := ⟨_, rfl⟩
  obtain ⟨q, hq⟩ : ∃ q, (Fb.doL W L m 0).2.2 = q := ⟨_, rfl⟩
  rw [hj, hq] at HD
  rw [hj, hq]
  rw [hq] at hd
  have hqz : (q == 0) = false := by simpa using hd
  have hqz2 : (q != 0) = true := by simpa using hd
  have hslt := h.slt
  clear h hc hE hj hq hm0
  go_enter Try.func14, Try.ntmps14
  go_wp2_with fail
  refine HD.out.mono ?_
  rintro e w2 ⟨rfl, ⟨v', hT⟩, hbt⟩
  have HT := Lib.hid hT
  have HB := Lib.hid hbt
  clear hT hbt
  go_wp2_with fail
  refine bodyPost_ret (v := .tuple #[.int .u64 0, .int .i64 j, .int .i64 q]) (by simp [results, go_sem]) rfl ?_
  refine ⟨rfl, ⟨v', ?_⟩, HB.out⟩
  have h0 := H.out
  have hT := HT.out
  rw [HE.out] at hT
  refine h0.setTab HB.out h0.ne (fun b hb e => h0.tab.no b hb e) (fun b hb e => (h0.nv b hb).2.2 e) hT (fun b hb hl => .inl ⟨hb, hl⟩) ?_ ?_
  · rintro b (⟨hb, _⟩ | hb)
    · exact h0.ns b hb
    · omega
  · rintro b hb (⟨h1, _⟩ | h1)
    · exact (h0.nv b hb).1 h1
    · have := (own_lt h0.own hb).2
      omega

set_option maxHeartbeats 6400000 in
set_option maxRecDepth 20000 in
/-- An install that makes a version. -/
theorem rinstall_good {ok ok2 : Nat → Prop} {base : Nat} {w : World} {sb tb : Nat} {v vo : Value} {us : List Value} {L : List Rl} {W : Int} {ver boot : Nat} {olds : List (List Rl)} (h : RSto ok base w sb tb v vo us L W ver boot olds) {cv : Value} {m : List (Int × Rl)} (hc : RdsC ok2 w cv m) (hm : m.length * 64 ≤ 140737488351232) (hm0 : m ≠ []) (hL : Fb.Ok W L) (hd : (Fb.doL W L m 0).2.2 = 0)
    (hv : ver ≤ 1000000) (ho : olds.length < 4096) (hbase : base ≤ w.heap.size) :
    Calls Try.prog 14 #[.pointer (some ⟨sb, 0, none⟩), cv] w fun e w' => e = .returned (.tuple #[.int .u64 ((ver : Int) + 1), .int .i64 0, .int .i64 0]) ∧
      (∃ v' vo' us', RSto (fun b => okNew ok w b ∧ vo'.ownBlock ≠ some b) base w' sb tb v' vo' us' (Fb.endL W L m) W (ver + 1) boot (olds ++ [Fb.endL W L m]) ∧ (∀ b, vo'.ownBlock = some b → vo.ownBlock = some b ∨ w.heap.size ≤ b)) ∧ But (fun b => b = sb ∨ b = tb ∨ vo.ownBlock = some b) w w' := by
  have HD := Lib.hid (rDo_tab h.tab hc hm hL)
  obtain ⟨ad, cap, rfl, _, _⟩ := hc.form
  have c0 := h.c0
  have H := Lib.hid h
  have hz : ((m.length : Int) == 0) = false := by
    have := List.length_pos_iff.2 hm0
    simp; omega
  have hz2 : (m.length == 0) = false := by simpa using hm0
  rw [hd] at HD
  have hOk := hL.end_ m
  obtain ⟨E, hE⟩ : ∃ E, Fb.endL W L m = E := ⟨_, rfl⟩
  rw [hE] at hOk HD ⊢
  have hEf := hOk.few
  have HOk := Lib.hid hOk
  obtain ⟨j, hj⟩ : ∃ j, (Fb.doL W L m 0).2.1 = j := ⟨_, rfl⟩
  rw [hj] at HD
  have hslt := h.slt
  obtain ⟨i0, hi, hi0, hi1, hi2⟩ := info_parts infoRls
  have hwr : IntKind.u64.wrap ((ver : Int) + 1) = (ver : Int) + 1 := by
    unfold IntKind.wrap
    simp [IntKind.signed, IntKind.bits]
    omega
  have HUl := Lib.hid h.len
  have hun : us.length < 4096 := by have := h.len; omega
  clear h hc hE hj hm0 hd hOk ho
  go_enter Try.func14, Try.ntmps14
  go_wp2_with fail
  refine HD.out.mono ?_
  rintro e w2 ⟨rfl, ⟨v', hT⟩, hbt⟩
  have h0 := H.out
  have c1 := (hbt.cell (p := ⟨sb, 1, none⟩) hslt h0.ne).trans h0.c1
  have f1 := (hbt.frozen (p := ⟨sb, 1, none⟩) hslt h0.ne).trans h0.f1
  have HT := Lib.hid hT
  have HB := Lib.hid hbt
  clear hT hbt h0
  obtain ⟨w3, hw3⟩ : ∃ w3, w3 = w2.setCell ⟨sb, 1, none⟩ (.int .u64 ((ver : Int) + 1)) := ⟨_, rfl⟩
  have HW3 := Lib.hid hw3
  clear hw3
  go_upto_region 7 with fail
  rw [← HW3.out]
  have h0 := H.out
  have hb23 : But (fun b => b = sb) w2 w3 := by rw [HW3.out]; exact But.set (S := fun b => b = sb) (a := ⟨sb, 1, none⟩) rfl _
  have hb02 := HB.out
  have hb03 : But (fun b => b = sb ∨ b = tb) w w3 := (hb02.mono fun b hb => .inr hb).trans (hb23.mono fun b hb => .inl hb)
  have hnsb : ∀ b, okNew ok w b → b ≠ sb := by
    rintro b (⟨hb, _⟩ | hb)
    · exact h0.ns b hb
    · omega
  have hT3 : Tab 1 0 (okNew ok w) w3 tb v' E W := HT.out.but hb23 (fun e => h0.ne e.symm) (fun b hb e => hnsb b hb e)
  have e0 : w3.cell? ⟨sb, 0, none⟩ = some (.pointer (some ⟨tb, 0, none⟩)) := by
    rw [HW3.out]
    exact (cell_set_other _ (by intro e; injection e with _ e _; omega)).trans ((hb02.cell (p := ⟨sb, 0, none⟩) hslt h0.ne).trans h0.c0)
  obtain ⟨va, vc, hvo, hvb⟩ := ownsRow_slice h0.own
  have e3 : w3.cell? ⟨sb, 3, none⟩ = some (.slice va us.length vc) := by
    rw [HW3.out]
    exact (cell_set_other _ (by intro e; injection e with _ e _; omega)).trans ((hb02.cell (p := ⟨sb, 3, none⟩) hslt h0.ne).trans (by rw [h0.c3, hvo]))
  have g3 : w3.frozen? ⟨sb, 3, none⟩ = false := by
    rw [HW3.out, World.frozen?_setCell]
    exact (hb02.frozen (p := ⟨sb, 3, none⟩) hslt h0.ne).trans h0.f3
  have e1 : w3.cell? ⟨sb, 1, none⟩ = some (.int .u64 ((ver : Int) + 1)) := by rw [HW3.out]; exact cell_set_same _ c1
  have hown3 : w3.ownsRow base 28 1 (.slice va us.length vc) us.length us := by
    rw [← hvo]
    exact ownsRow_butS h0.own hb03 (fun b hb e => by rcases e with e | e; exact (h0.nv b hb).2.1 e; exact (h0.nv b hb).2.2 e)
  have hs3 : w.heap.size ≤ w3.heap.size := hb03.size
  have hslt3 : sb < w3.heap.size := by omega
  have hRl : Calls Try.prog 15 #[.pointer (some ⟨sb, 0, none⟩)] w3.drew _ := rsrules_tab e0 (hT3.below (Below.refl _ _).drew) HOk.out
  have HRl := Lib.hid hRl
  have HT3 := Lib.hid hT3
  have HB3 := Lib.hid hb03
  have HO3 := Lib.hid hown3
  have HVo := Lib.hid hvo
  have HVb := Lib.hid hvb
  have HNs := Lib.hid hnsb
  clear c0 c1 f1 h0 hb23 hb02 hb03 hnsb hT3 hown3 hvo hvb hRl
  have hS0 : (fun W : World => W.cell? ⟨sb, 0, none⟩ = some (.pointer (some ⟨tb, 0, none⟩)) ∧ W.cell? ⟨sb, 3, none⟩ = some (.slice va us.length vc)) w3.drew := ⟨e0, e3⟩
  refine wp_region_heldG (fun W : World => W.cell? ⟨sb, 0, none⟩ = some (.pointer (some ⟨tb, 0, none⟩)) ∧ W.cell? ⟨sb, 3, none⟩ = some (.slice va us.length vc)) 11 (by kernel_rfl) ?_
  refine wpAnyG_takeP 0 (v := ?v0) rfl (by kernel_rfl) (fun _ _ _ h => h) (by rfl) ?h0 hS0 ?_
  case h0 => (intro wl; go_simp; try with_reducible rfl)
  try simp only [Act.put, List.setIfInBounds_toArray, List.set_cons_zero, List.set_cons_succ]
  refine wpAnyG_takeP 1 (v := ?v1) rfl (by kernel_rfl) (fun _ _ _ h => h) (by rfl) ?h1 hS0 ?_
  case h1 => (intro wl; go_simp; try with_reducible rfl)
  try simp only [Act.put, List.setIfInBounds_toArray, List.set_cons_zero, List.set_cons_succ]
  refine wpAnyG_takeP 2 (v := ?v2) rfl (by kernel_rfl) (fun _ _ _ h => h) (by rfl) ?h2 hS0 ?_
  case h2 => (intro wl; go_simp; try with_reducible rfl)
  try simp only [Act.put, List.setIfInBounds_toArray, List.set_cons_zero, List.set_cons_succ]
  refine wpAnyG_takeP 3 (v := ?v3) rfl (by kernel_rfl) (fun _ _ _ h => h) (by rfl) ?h3 hS0 ?_
  case h3 => (intro wl; go_simp; try with_reducible rfl)
  try simp only [Act.put, List.setIfInBounds_toArray, List.set_cons_zero, List.set_cons_succ]
  refine wpAnyG_takeL 4 (v := ?v4) rfl (by kernel_rfl) (fun _ _ _ h => h) (by rfl) ?h4 hS0 ?_
  case h4 => (intro wl hl; obtain ⟨l0, l1⟩ := hl; go_simp; try with_reducible rfl)
  try simp only [Act.put, List.setIfInBounds_toArray, List.set_cons_zero, List.set_cons_succ]
  refine wpAnyG_takeP 5 (v := ?v5) rfl (by kernel_rfl) (fun _ _ _ h => h) (by rfl) ?h5 hS0 ?_
  case h5 => (intro wl; go_simp; try with_reducible rfl)
  try simp only [Act.put, List.setIfInBounds_toArray, List.set_cons_zero, List.set_cons_succ]
  refine wpAnyG_one 6 rfl (by kernel_rfl) (fun K hK => ?_)
  go_simp
  go_at_call 15
  refine HRl.out.mono ?_
  rintro e w4 ⟨ad4, cp4, rfl, hr4, hb4⟩
  have hb34 : Below w3.heap.size w3 w4 := ((Below.refl _ _).drew).trans hb4
  have hs4 : w3.heap.size ≤ w4.heap.size := hb34.size
  have k0 := (hb34.cell (p := ⟨sb, 0, none⟩) hslt3).trans e0
  have k3 := (hb34.cell (p := ⟨sb, 3, none⟩) hslt3).trans e3
  have g4 := (hb34.frozen (p := ⟨sb, 3, none⟩) hslt3).trans g3
  have k1 := (hb34.cell (p := ⟨sb, 1, none⟩) hslt3).trans e1
  have HR4 := Lib.hid hr4
  have HB4 := Lib.hid hb34
  have HO4 : Hid (w4.ownsRow base 28 1 (.slice va us.length vc) us.length us) := ownsRow_below HO3.out hb34
  clear hr4 hb4 hb34 e0 e3 g3 e1 hS0
  refine hK _ _ (fun _ => ⟨k0, k3⟩) ?_
  clear hK K
  try simp only [Act.put, List.setIfInBounds_toArray, List.set_cons_zero, List.set_cons_succ]
  refine wpAnyG_one 7 rfl (by kernel_rfl) (fun K hK => ?_)
  go_simp
  refine hK _ _ (fun _ => ⟨by go_keep, by go_keep⟩) ?_
  clear hK K
  try simp only [Act.put, List.setIfInBounds_toArray, List.set_cons_zero, List.set_cons_succ]
  refine wpAnyG_one 8 rfl (by kernel_rfl) (fun K hK => ?_)
  (refine step_append_lies _ (by rfl) (.tmp 36) (.tmp 39) _ (by rfl) base 28 i0 _ 1 24 Try.underlying30 hi hi0 hi1 hi2 rfl (by omega) (.slice va us.length vc) us.length us (by rfl) (HO4.out.alloc _) ⟨w4.heap.size, 0, none⟩ 1 1 [.slice ad4 E.length cp4] (by rfl) (by rfl) (World.news_of_block (cs := #[.slice ad4 E.length cp4]) (t := 28) (fr := (0, 0)) (heap_alloc_new w4 _)) (by simp [Value.oneCell']) (by omega) (by unfold maxLen; omega) (by omega) (by simp; omega) (w4.heap.size + 1) (by simp) ?_; intro gg cap5 w5 hown5 hgrow hat hlt5)
  have hno : ¬ (Value.slice va us.length vc).ownBlock = some sb := fun e => (H.out.nv sb (by rw [HVo.out]; exact e)).2.1 rfl
  have hfar : ∀ j, j < w4.heap.size → ¬ (Value.slice va us.length vc).ownBlock = some j → w5.heap[j]? = w4.heap[j]? := fun j h1 h2 => (hgrow.block j (by simp; omega) (fun e => h2 e.symm)).trans (Below.heap_alloc _ _ _ h1)
  have hslt4 : sb < w4.heap.size := by omega
  have q0 : w5.cell? ⟨sb, 0, none⟩ = some (.pointer (some ⟨tb, 0, none⟩)) := (World.cell?_of_block (a := ⟨sb, 0, none⟩) (hfar sb hslt4 hno)).trans k0
  have q3 : w5.cell? ⟨sb, 3, none⟩ = some (.slice va us.length vc) := (World.cell?_of_block (a := ⟨sb, 3, none⟩) (hfar sb hslt4 hno)).trans k3
  have q1 : w5.cell? ⟨sb, 1, none⟩ = some (.int .u64 ((ver : Int) + 1)) := (World.cell?_of_block (a := ⟨sb, 1, none⟩) (hfar sb hslt4 hno)).trans k1
  have g5 : w5.frozen? ⟨sb, 3, none⟩ = false := (World.frozen?_of_block (a := ⟨sb, 3, none⟩) (hfar sb hslt4 hno)).trans g4
  have HFar := Lib.hid hfar
  have HO5 := Lib.hid hown5
  have HG5 := Lib.hid hgrow
  have HAt := Lib.hid hat
  have HNo := Lib.hid hno
  clear k0 k1 k3 g4 hfar hown5 hgrow hat hlt5 hno
  refine hK _ _ (fun _ => ⟨q0, q3⟩) ?_
  clear hK K
  try simp only [Act.put, List.setIfInBounds_toArray, List.set_cons_zero, List.set_cons_succ]
  have hS0 : (fun W : World => W.cell? ⟨sb, 0, none⟩ = some (.pointer (some ⟨tb, 0, none⟩)) ∧ W.cell? ⟨sb, 3, none⟩ = some (.slice va us.length vc)) w5 := ⟨q0, q3⟩
  refine wpAnyG_takeP 9 (v := ?v9) rfl (by kernel_rfl) (fun _ _ _ h => h) (by rfl) ?h9 hS0 ?_
  case h9 => (intro wl; go_simp; try with_reducible rfl)
  try simp only [Act.put, List.setIfInBounds_toArray, List.set_cons_zero, List.set_cons_succ]
  refine wpAnyG_takeP 10 (v := ?v10) rfl (by kernel_rfl) (fun _ _ _ h => h) (by rfl) ?h10 hS0 ?_
  case h10 => (intro wl; go_simp; try with_reducible rfl)
  try simp only [Act.put, List.setIfInBounds_toArray, List.set_cons_zero, List.set_cons_succ]
  refine wpAnyG_one 11 rfl (by kernel_rfl) (fun K hK => ?_)
  go_simp
  refine hK _ _ (fun h => absurd h (by decide)) ?_
  clear hK K
  refine wpAnyG_done (by kernel_rfl) ?_ _
  obtain ⟨w6, hw6⟩ : ∃ w6, w6 = w5.setCell ⟨sb, 3, none⟩ (.slice (some ⟨gg, 0, none⟩) (us.length + 1) cap5) := ⟨_, rfl⟩
  rw [← hw6]
  have ho : ∀ i, i ≠ 3 → w6.cell? ⟨sb, i, none⟩ = w5.cell? ⟨sb, i, none⟩ := fun i hi => by
    rw [hw6]
    exact cell_set_other _ (fun e => hi (by injection e with _ e _; exact e.symm))
  have r3 : w6.cell? ⟨sb, 3, none⟩ = some (.slice (some ⟨gg, 0, none⟩) (us.length + 1) cap5) := by rw [hw6]; exact cell_set_same _ q3
  have r1 := (ho 1 (by omega)).trans q1
  have hz5 : decide ((4096 : Int) < (us.length : Int) + 1) = false := by simp; omega
  have HW6 := Lib.hid hw6
  have HOth := Lib.hid ho
  have HQ0 := Lib.hid q0
  clear q0 q3 q1 g5 hw6 ho hS0
  go_wp2_with fail
  refine bodyPost_ret (v := .tuple #[.int .u64 ((ver : Int) + 1), .int .i64 0, .int .i64 0]) (by simp [results, go_sem]) rfl ?_
  have h0 := H.out
  have hvo := HVo.out
  have hgrow := HG5.out
  have hb45 : But (fun k => vo.ownBlock = some k) w4 w5 := by
    rw [hvo]
    exact ⟨hgrow.os, hgrow.tape, hgrow.output, by have := hgrow.size; simp at this; omega, fun k hk hn => HFar.out k hk hn⟩
  have hb56 : But (fun k => k = sb) w5 w6 := by rw [HW6.out]; exact But.set (S := fun b => b = sb) (a := ⟨sb, 3, none⟩) rfl _
  have hs5 := hb45.size
  have hs6 := hb56.size
  have hgg : vo.ownBlock = some gg ∨ gg = w4.heap.size + 1 := by rw [hvo]; exact HAt.out
  have hov : ∀ b, vo.ownBlock = some b → base ≤ b ∧ b < w.heap.size ∧ ¬ okNew ok w b ∧ b ≠ sb ∧ b ≠ tb := fun b hb => by
    obtain ⟨l1, l2⟩ := own_lt h0.own hb
    obtain ⟨n1, n2, n3⟩ := h0.nv b hb
    refine ⟨l1, l2, ?_, n2, n3⟩
    rintro (⟨h1, _⟩ | h1)
    · exact n1 h1
    · omega
  have hgo : ∀ b, okNew ok w b → b < w4.heap.size → gg ≠ b := fun b hb hl e => by
    rcases hgg with h | h
    · exact (hov gg h).2.2.1 (e ▸ hb)
    · omega
  have htbl : tb < w.heap.size := h0.tab.lt
  have hP : Tab 1 0 (fun b => okNew ok w b ∧ gg ≠ b) w3 tb v' E W := HT3.out.toQ _ (fun k hk hl => ⟨hk, hgo k hk (by omega)⟩) (fun k hk => HT3.out.no k hk.1)
  have hP4 := hP.below HB4.out
  have hP5 := hP4.but hb45 (fun e => (hov tb e).2.2.2.2 rfl) (fun b hb e => (hov b e).2.2.1 hb.1)
  have hP6 := hP5.but hb56 (fun e => h0.ne e.symm) (fun b hb e => HNs.out b hb.1 e)
  have hcell : ∀ i, i ≠ 1 → i ≠ 3 → w6.cell? ⟨sb, i, none⟩ = w.cell? ⟨sb, i, none⟩ := fun i h1 h3 => by
    rw [HOth.out i h3, hb45.cell (p := ⟨sb, i, none⟩) hslt4 (fun e => (hov sb e).2.2.2.1 rfl), HB4.out.cell (p := ⟨sb, i, none⟩) hslt3, HW3.out, cell_set_other _ (fun e => h1 (by injection e with _ e _; exact e.symm)), HB.out.cell (p := ⟨sb, i, none⟩) hslt h0.ne]
  have hfroz : ∀ i, w6.frozen? ⟨sb, i, none⟩ = w.frozen? ⟨sb, i, none⟩ := fun i => by
    rw [HW6.out, World.frozen?_setCell, hb45.frozen (p := ⟨sb, i, none⟩) hslt4 (fun e => (hov sb e).2.2.2.1 rfl), HB4.out.frozen (p := ⟨sb, i, none⟩) hslt3, HW3.out, World.frozen?_setCell, HB.out.frozen (p := ⟨sb, i, none⟩) hslt h0.ne]
  have hggsb : gg ≠ sb := fun e => by
    rcases hgg with h | h
    · exact (hov gg h).2.2.2.1 e
    · omega
  have hggtb : gg ≠ tb := fun e => by
    rcases hgg with h | h
    · exact (hov gg h).2.2.2.2 e
    · omega
  refine ⟨rfl, ⟨v', .slice (some ⟨gg, 0, none⟩) (us.length + 1) cap5, us ++ [.slice ad4 E.length cp4], ⟨(hcell 0 (by omega) (by omega)).trans h0.c0, ?_, (hcell 2 (by omega) (by omega)).trans h0.c2, r3, (hfroz 1).trans h0.f1, (hfroz 2).trans h0.f2, (hfroz 3).trans h0.f3, ?_, ?_, ?_, ?_, fun b hb => HNs.out b hb.1, h0.ne, ?_⟩, ?_⟩, ?_⟩
  · rw [r1]; simp
  · exact hP6.mono (fun b hb => ⟨hb.1, fun e => hb.2 (by injection e)⟩) (fun b hb => HT3.out.no b hb.1)
  · rw [List.length_append, List.length_singleton]
    exact ownsRow_butS HO5.out hb56 (fun b hb e => by injection hb with hb; exact hggsb (hb.trans e))
  · simp [HUl.out]
  · intro i h1 h2
    by_cases hi : i < us.length
    · have e1 : (us ++ [.slice ad4 E.length cp4])[i] = us[i] := List.getElem_append_left hi
      have e2 : (olds ++ [E])[i] = olds[i]'(by have := HUl.out; omega) := List.getElem_append_left _
      rw [e1, e2]
      have r0 := (h0.rd i hi (by have := HUl.out; omega)).lt
      have r1 := r0.but HB3.out (fun b hb e => by rcases e with e | e; exact h0.ns b hb.1 e; exact h0.tab.no b hb.1 e)
      have r2 := r1.below HB4.out
      have r3 := r2.but hb45 (fun b hb e => (h0.nv b e).1 hb.1)
      have r4 := r3.but hb56 (fun b hb e => h0.ns b hb.1 e)
      exact r4.mono (fun b hb => ⟨.inl hb, fun e => hgo b (.inl hb) (by omega) (by injection e)⟩)
    · have hi2 : i = us.length := by simp at h1; omega
      subst hi2
      have e1 : (us ++ [.slice ad4 E.length cp4])[us.length] = .slice ad4 E.length cp4 := by simp
      have e2 : (olds ++ [E])[us.length] = E := by simp [HUl.out]
      rw [e1, e2]
      have r0 := HR4.out.lt
      have hor : ∀ b, (w3.drew.heap.size ≤ b ∨ okNew ok w b ∧ b < w3.drew.heap.size) ∧ b < w4.heap.size → okNew ok w b := fun b hb => by
        rcases hb.1 with h1 | h1
        · have h1 : w3.heap.size ≤ b := h1
          exact .inr (by omega)
        · exact h1.1
      have r3 := r0.but hb45 (fun b hb e => (hov b e).2.2.1 (hor b hb))
      have r4 := r3.but hb56 (fun b hb e => HNs.out b (hor b hb) e)
      refine r4.mono (fun b hb => ?_)
      exact ⟨hor b hb, fun e => hgo b (hor b hb) hb.2 (by injection e)⟩
  · intro b hb
    injection hb with hb
    have hb : gg = b := hb
    subst hb
    exact ⟨fun h => h.2 rfl, hggsb, hggtb⟩
  · intro b hb
    injection hb with hb
    have hb : gg = b := hb
    subst hb
    rcases hgg with h | h
    · exact .inl h
    · exact .inr (by omega)
  · exact (((HB3.out.mono fun b hb => hb.elim .inl (fun h => .inr (.inl h))).trans (But.below HB4.out)).trans (hb45.mono fun b hb => .inr (.inr hb))).trans (hb56.mono fun b hb => .inl hb)
end Go.Proofs.Ytlbelkjgaeaaeaa
/-
  The law StoreOwn: installs of every kind into a new store, rules that may be written, rows of rules that are cleared.
-/
namespace Go.Proofs.Ytlbelkjgaeaaeaa
open Go.RowKit Go.Shelf Go.Lib Go.Sort
set_option linter.unusedVariables false
set_option linter.unusedSectionVars false
set_option linter.unusedSimpArgs false

theorem endL_bad {W : Int} {L : List Rl} {m : List (Int × Rl)} (hd : ¬ (Fb.doL W L m 0).2.2 = 0) : Fb.endL W L m = L := by
  unfold Fb.endL
  cases e : (Fb.doL W L m 0).1 with
  | none => rfl
  | some L' => exact absurd (Fb.doL_err.2 (by rw [e]; rfl)) hd

/-- What an install into a new store leaves. -/
structure Inst (F : (Nat → Prop) → World → Value → Value → List Value → Nat → List (List Rl) → Prop) (n0 : Nat) (vo : Value) (E : List Rl) (w' : World) (v' vo' : Value) (us' : List Value) (vn : Nat) (olds : List (List Rl)) : Prop where
  sto : F (fun b => n0 ≤ b ∧ vo'.ownBlock ≠ some b) w' v' vo' us' vn olds
  own : ∀ b, vo'.ownBlock = some b → vo.ownBlock = some b ∨ n0 ≤ b
  len : olds.length = vn + 1
  le1 : vn ≤ 1
  last : olds[vn]? = some E
  few : ∀ l ∈ olds, l.length ≤ 4096

theorem install_all {ok2 : Nat → Prop} {base : Nat} {w : World} {sb tb : Nat} {v vo : Value} {us : List Value} {W : Int} (h : Sto (fun _ => False) base w sb tb v vo us [] W 0 1 [[]]) {cv : Value} {m : List (Int × Rl)} (hc : RdsC ok2 w cv m) (hm : m.length * 64 ≤ 140737488351232) (hbase : base ≤ w.heap.size) (hsb : base ≤ sb) (htb : base ≤ tb) :
    Calls Try.prog 10 #[.pointer (some ⟨sb, 0, none⟩), cv] w fun e w' => ∃ a b c : Int, e = .returned (.tuple #[.int .u64 a, .int .i64 b, .int .i64 c]) ∧
      (∃ v' vo' us' ver olds, Inst (fun ok w v vo us ver olds => Sto ok base w sb tb v vo us (Fb.endL W [] m) W ver 1 olds) w.heap.size vo (Fb.endL W [] m) w' v' vo' us' ver olds) ∧ But (fun b => b = sb ∨ b = tb ∨ vo.ownBlock = some b) w w' := by
  have hvl : ∀ b, vo.ownBlock = some b → b < w.heap.size := fun b e => (own_lt h.own e).2
  have hsl := h.slt
  have htl := h.tab.lt
  have h4 : Sto (fun b => w.heap.size ≤ b ∧ vo.ownBlock ≠ some b) base w sb tb v vo us [] W 0 1 [[]] := h.toP _ (fun b h _ => h.elim) (fun b hb => by omega) (fun b hb => by omega) (fun b hb e => e.2 hb)
  by_cases hm0 : m = []
  · subst hm0
    refine (install_none h hc).mono ?_
    rintro e w' ⟨rfl, rfl⟩
    exact ⟨0, 0, 1, rfl, ⟨v, vo, us, 0, [[]], h4, fun b hb => .inl hb, rfl, by omega, rfl, fun l hl => by simp at hl; subst hl; simp⟩, But.refl _ _⟩
  · by_cases hd : (Fb.doL W [] m 0).2.2 = 0
    · refine (install_good h hc hm hm0 (Fb.ok_nil W) hd (by omega) (by simp) hbase).mono ?_
      rintro e w' ⟨rfl, ⟨v', vo', us', hs, ho⟩, hb⟩
      have hs' : Sto (fun b => w.heap.size ≤ b ∧ vo'.ownBlock ≠ some b) base w' sb tb v' vo' us' (Fb.endL W [] m) W (0 + 1) 1 ([[]] ++ [Fb.endL W [] m]) := hs.toP _ (fun b hb _ => ⟨hb.1.elim (fun h => h.1.elim) id, hb.2⟩) (fun b hb => by omega) (fun b hb => by omega) (fun b hb e => e.2 hb)
      refine ⟨_, _, _, rfl, ⟨v', vo', us', 1, _, hs', ho, rfl, Nat.le_refl _, rfl, ?_⟩, hb⟩
      intro l hl
      simp at hl
      rcases hl with rfl | rfl
      · simp
      · exact ((Fb.ok_nil W).end_ m).few
    · refine (install_bad h hc hm hm0 (Fb.ok_nil W) hd).mono ?_
      rintro e w' ⟨rfl, ⟨v', hs⟩, hb⟩
      rw [endL_bad hd]
      have hs' : Sto (fun b => w.heap.size ≤ b ∧ vo.ownBlock ≠ some b) base w' sb tb v' vo us [] W 0 1 [[]] := hs.toP _ (fun b hb hl => ⟨hb.elim (fun h => h.1.elim) id, fun e => by have := hvl b e; have := hb.elim (fun h => h.1.elim) id; omega⟩) (fun b hb => by omega) (fun b hb => by omega) (fun b hb e => e.2 hb)
      exact ⟨_, _, _, rfl, ⟨v', vo, us, 0, [[]], hs', fun b hb => .inl hb, rfl, by omega, rfl, fun l hl => by simp at hl; subst hl; simp⟩, hb.mono fun b hb => .inr (.inl hb)⟩

set_option maxHeartbeats 800000 in
set_option maxRecDepth 20000 in
theorem rinstall_none {ok2 : Nat → Prop} {w : World} {sb : Nat} {cv : Value} (hc : RdsC ok2 w cv []) :
    Calls Try.prog 14 #[.pointer (some ⟨sb, 0, none⟩), cv] w fun e w' => e = .returned (.tuple #[.int .u64 0, .int .i64 0, .int .i64 1]) ∧ w = w' := by
  obtain ⟨ad, cap, rfl, _, _⟩ := hc.form
  clear hc
  go_enter Try.func14, Try.ntmps14
  go_wp2_with fail
  refine bodyPost_ret (v := .tuple #[.int .u64 0, .int .i64 0, .int .i64 1]) (by simp [results, go_sem]) rfl ?_
  exact ⟨rfl, rfl⟩

theorem RSto.toP {ok : Nat → Prop} {base : Nat} {w : World} {sb tb : Nat} {v vo : Value} {us : List Value} {L : List Rl} {W : Int} {ver boot : Nat} {olds : List (List Rl)} (h : RSto ok base w sb tb v vo us L W ver boot olds) (P : Nat → Prop) (hP : ∀ b, ok b → b < w.heap.size → P b) (hs : ∀ b, P b → b ≠ sb) (ht : ∀ b, P b → b ≠ tb) (hv : ∀ b, vo.ownBlock = some b → ¬ P b) : RSto P base w sb tb v vo us L W ver boot olds :=
  ⟨h.c0, h.c1, h.c2, h.c3, h.f1, h.f2, h.f3, h.tab.toQ P hP ht, h.own, h.len, fun i a b => (h.rd i a b).lt.mono fun k hk => hP k hk.1 hk.2, hs, h.ne, fun b hb => ⟨hv b hb, (h.nv b hb).2⟩⟩

theorem rinstall_all {ok2 : Nat → Prop} {base : Nat} {w : World} {sb tb : Nat} {v vo : Value} {us : List Value} {W : Int} (h : RSto (fun _ => False) base w sb tb v vo us [] W 0 1 [[]]) {cv : Value} {m : List (Int × Rl)} (hc : RdsC ok2 w cv m) (hm : m.length * 64 ≤ 140737488351232) (hbase : base ≤ w.heap.size) (hsb : base ≤ sb) (htb : base ≤ tb) :
    Calls Try.prog 14 #[.pointer (some ⟨sb, 0, none⟩), cv] w fun e w' => ∃ a b c : Int, e = .returned (.tuple #[.int .u64 a, .int .i64 b, .int .i64 c]) ∧
      (∃ v' vo' us' ver olds, Inst (fun ok w v vo us ver olds => RSto ok base w sb tb v vo us (Fb.endL W [] m) W ver 1 olds) w.heap.size vo (Fb.endL W [] m) w' v' vo' us' ver olds) ∧ But (fun b => b = sb ∨ b = tb ∨ vo.ownBlock = some b) w w' := by
  have hvl : ∀ b, vo.ownBlock = some b → b < w.heap.size := fun b e => (own_lt h.own e).2
  have hsl := h.slt
  have htl := h.tab.lt
  have h4 : RSto (fun b => w.heap.size ≤ b ∧ vo.ownBlock ≠ some b) base w sb tb v vo us [] W 0 1 [[]] := h.toP _ (fun b h _ => h.elim) (fun b hb => by omega) (fun b hb => by omega) (fun b hb e => e.2 hb)
  by_cases hm0 : m = []
  · subst hm0
    refine (rinstall_none hc).mono ?_
    rintro e w' ⟨rfl, rfl⟩
    exact ⟨0, 0, 1, rfl, ⟨v, vo, us, 0, [[]], h4, fun b hb => .inl hb, rfl, by omega, rfl, fun l hl => by simp at hl; subst hl; simp⟩, But.refl _ _⟩
  · by_cases hd : (Fb.doL W [] m 0).2.2 = 0
    · refine (rinstall_good h hc hm hm0 (Fb.ok_nil W) hd (by omega) (by simp) hbase).mono ?_
      rintro e w' ⟨rfl, ⟨v', vo', us', hs, ho⟩, hb⟩
      have hs' : RSto (fun b => w.heap.size ≤ b ∧ vo'.ownBlock ≠ some b) base w' sb tb v' vo' us' (Fb.endL W [] m) W (0 + 1) 1 ([[]] ++ [Fb.endL W [] m]) := hs.toP _ (fun b hb _ => ⟨hb.1.elim (fun h => h.1.elim) id, hb.2⟩) (fun b hb => by omega) (fun b hb => by omega) (fun b hb e => e.2 hb)
      refine ⟨_, _, _, rfl, ⟨v', vo', us', 1, _, hs', ho, rfl, Nat.le_refl _, rfl, ?_⟩, hb⟩
      intro l hl
      simp at hl
      rcases hl with rfl | rfl
      · simp
      · exact ((Fb.ok_nil W).end_ m).few
    · refine (rinstall_bad h hc hm hm0 (Fb.ok_nil W) hd).mono ?_
      rintro e w' ⟨rfl, ⟨v', hs⟩, hb⟩
      rw [endL_bad hd]
      have hs' : RSto (fun b => w.heap.size ≤ b ∧ vo.ownBlock ≠ some b) base w' sb tb v' vo us [] W 0 1 [[]] := hs.toP _ (fun b hb hl => ⟨hb.elim (fun h => h.1.elim) id, fun e => by have := hvl b e; have := hb.elim (fun h => h.1.elim) id; omega⟩) (fun b hb => by omega) (fun b hb => by omega) (fun b hb e => e.2 hb)
      exact ⟨_, _, _, rfl, ⟨v', vo, us, 0, [[]], hs', fun b hb => .inl hb, rfl, by omega, rfl, fun l hl => by simp at hl; subst hl; simp⟩, hb.mono fun b hb => .inr (.inl hb)⟩

set_option maxHeartbeats 800000 in
set_option maxRecDepth 20000 in
theorem rules_sto_own {ok : Nat → Prop} {base : Nat} {w : World} {sb tb : Nat} {v vo : Value} {us : List Value} {L : List Rl} {W : Int} {ver boot : Nat} {olds : List (List Rl)} (h : Sto ok base w sb tb v vo us L W ver boot olds) (hL : L.length ≤ 4096) :
    Calls Try.prog 8 #[.pointer (some ⟨sb, 0, none⟩)] w fun e w' => ∃ ad c xs, e = .returned (.slice ad L.length c) ∧ OwnR (okF w.heap.size (.slice ad L.length c)) w' w.heap.size (.slice ad L.length c) xs L ∧ (∀ j (h : j < xs.length), Pf w' xs[j]) ∧ Below w.heap.size w w' := by
  have HM := Lib.hid (made_sto h)
  have HR := Lib.hid (rules_own h.tab hL)
  have c0 := h.c0
  clear h
  go_enter Try.func8, Try.ntmps8
  go_wp2_with fail
  refine HM.out.mono ?_
  rintro e w1 ⟨rfl, rfl⟩
  go_wp2_with fail
  refine HR.out.mono ?_
  rintro e w2 ⟨ad, c, xs, rfl, hr, hp, hb⟩
  have HRd := Lib.hid hr
  have HP := Lib.hid hp
  have HB := Lib.hid hb
  clear hr hp hb
  go_wp2_with fail
  go_ret
  exact ⟨ad, c, xs, rfl, HRd.out, HP.out, HB.out⟩

theorem PW.but {k d lo hi n : Nat} {S : Nat → Prop} {w w' : World} {ad : Option Addr} {ys : List RC} (h : PW k d lo hi w ad n ys) (hb : But S w w') (hs : ∀ b, lo ≤ b → ¬ S b) (hg : ∀ a, ad = some a → lo ≤ a.block) : PW k d lo hi w' ad n ys := by
  refine ⟨h.len, fun i hi => ?_, h.form, fun i hi => ?_⟩
  · obtain ⟨g, off, e, hl, hc⟩ := h.get i hi
    exact ⟨g, off, e, Nat.lt_of_lt_of_le hl hb.size, (hb.cell (p := ⟨g, off + i * k + d, none⟩) hl (hs g (hg _ e))).trans hc⟩
  · intro b off ha j hj
    obtain ⟨⟨s, h1⟩, h2⟩ := h.sw i hi b off ha j hj
    obtain ⟨b', off', e', h3, _, _⟩ := (h.form i hi).2 (by omega)
    rw [ha] at e'
    injection e' with e'
    injection e' with e1 e2
    subst e1
    have hl : b < w.heap.size := by
      rcases Nat.lt_or_ge b w.heap.size with h3 | h3
      · exact h3
      · rw [World.cell?, Array.getElem?_eq_none h3] at h1; cases h1
    exact ⟨⟨s, (hb.cell (p := ⟨b, off + j, none⟩) hl (hs b h3)).trans h1⟩, (hb.frozen (p := ⟨b, off + j, none⟩) hl (hs b h3)).trans h2⟩

/-- Rules of the call's own: ports and rows may be written. -/
structure TW (lo hi : Nat) (w : World) (ad : Option Addr) (n : Nat) (ys : List RC) : Prop where
  pw : PW 4 3 lo hi w ad n ys
  row : ∀ i, i < n → ∃ g, ad = some ⟨g, 0, none⟩ ∧ lo ≤ g ∧ g < hi ∧ g < w.heap.size ∧ ∀ j, j < 4 → (∃ u, w.cell? ⟨g, i * 4 + j, none⟩ = some u) ∧ w.frozen? ⟨g, i * 4 + j, none⟩ = false

theorem OwnR.tw {w : World} {base n c : Nat} {ad : Option Addr} {xs : List RC} {L : List Rl} (h : OwnR (okF base (.slice ad n c)) w base (.slice ad n c) xs L) (hp : ∀ j (h : j < xs.length), Pf w xs[j]) (hn : xs.length = n) : TW base w.heap.size w ad n xs := by
  refine ⟨h.pw hp hn, fun i hi => ?_⟩
  obtain ⟨⟨h1, h2⟩, h3, h4⟩ := h
  rcases h2 with ⟨h2, h5⟩ | ⟨g, cap, cur, hv, hg, hh, hn', hc, hs, ht⟩
  · exact absurd hi (by omega)
  · injection hv with e1 e2 e3
    have hgl : g < w.heap.size := (Array.getElem?_eq_some_iff.1 hh).1
    refine ⟨g, e1, hg, hgl, hgl, fun j hj => ⟨?_, by simp [World.frozen?, hh]⟩⟩
    have h7 : i * 4 + j < (cellsR xs).length := by rw [h1]; omega
    have key : (cellsR xs)[i * 4 + j]? = some ((cellsR xs)[i * 4 + j]) := List.getElem?_eq_getElem h7
    generalize (cellsR xs)[i * 4 + j] = u at key
    refine ⟨u, ?_⟩
    rw [← ht, List.getElem?_take_of_lt (by omega)] at key
    simp only [World.cell?, hh]
    simpa using key

theorem TW.below {lo hi n : Nat} {w w' : World} {ad : Option Addr} {ys : List RC} (h : TW lo hi w ad n ys) (hb : Below w.heap.size w w') : TW lo hi w' ad n ys := by
  refine ⟨h.pw.below hb, fun i hi => ?_⟩
  obtain ⟨g, e, h1, h2, hl, hc⟩ := h.row i hi
  refine ⟨g, e, h1, h2, Nat.lt_of_lt_of_le hl hb.size, fun j hj => ?_⟩
  obtain ⟨⟨u, hu⟩, hf⟩ := hc j hj
  exact ⟨⟨u, (hb.cell (p := ⟨g, i * 4 + j, none⟩) hl).trans hu⟩, ((But.below hb).frozen (S := fun _ => False) (p := ⟨g, i * 4 + j, none⟩) hl (fun h => h)).trans hf⟩

theorem TW.store {lo hi n : Nat} {w : World} {ad : Option Addr} {ys : List RC} (h : TW lo hi w ad n ys) {i : Nat} (hi2 : i < ys.length) {x : RC} (hx : ys[i] = x) {j : Nat} (hj : j < x.n) :
    ∃ b off s0, x.a = some ⟨b, off, none⟩ ∧ w.cell? ⟨b, off + j, none⟩ = some (.string s0) ∧ w.frozen? ⟨b, off + j, none⟩ = false ∧
      ∀ s, TW lo hi (w.setCell ⟨b, off + j, none⟩ (.string s)) ad n ys ∧ But (fun b => lo ≤ b ∧ b < hi) w (w.setCell ⟨b, off + j, none⟩ (.string s)) := by
  have hf := h.pw.form i hi2
  rw [hx] at hf
  obtain ⟨b, off, s0, h1, h2, h3, h4⟩ := h.pw.store hi2 hx hj
  obtain ⟨b', off', e', _, _, hne⟩ := hf.2 (by omega)
  rw [h1] at e'
  injection e' with e'
  injection e' with e1 e2
  subst e1 e2
  refine ⟨b, off, s0, h1, h2, h3, fun s => ⟨⟨(h4 s).1, fun i' hi' => ?_⟩, (h4 s).2⟩⟩
  obtain ⟨g, e, k1, k2, hl, hc⟩ := h.row i' hi'
  refine ⟨g, e, k1, k2, by simpa [World.setCell] using hl, fun j' hj' => ?_⟩
  obtain ⟨⟨u, hu⟩, hf⟩ := hc j' hj'
  refine ⟨⟨u, (cell_set_other _ (fun e2 => ?_)).trans hu⟩, by rw [World.frozen?_setCell]; exact hf⟩
  exact hne _ e (congrArg Addr.block e2).symm

/-- One row cleared. -/
theorem TW.clear {lo hi n : Nat} {w w' : World} {g : Nat} {ys : List RC} (h : TW lo hi w (some ⟨g, 0, none⟩) n ys) {i : Nat} (hi2 : i < n) (a0 a1 a2 : Value)
    (hw : w' = (((w.setCell ⟨g, i * 4, none⟩ a0).setCell ⟨g, i * 4 + 1, none⟩ a1).setCell ⟨g, i * 4 + 2, none⟩ a2).setCell ⟨g, i * 4 + 3, none⟩ (.slice none 0 0)) :
    TW lo hi w' (some ⟨g, 0, none⟩) n (ys.set i ⟨0, ⟨#[]⟩, 0, none, 0, 0⟩) ∧ But (fun b => lo ≤ b ∧ b < hi) w w' := by
  obtain ⟨g', e, k1, k2, hl, hc⟩ := h.row i hi2
  injection e with e
  injection e with e
  subst e
  have hsz : w'.heap.size = w.heap.size := by rw [hw]; simp [World.setCell]
  have hfr : ∀ p, w'.frozen? p = w.frozen? p := fun p => by rw [hw]; simp only [World.frozen?_setCell]
  have hfar : ∀ p : Addr, (∀ j, j < 4 → p ≠ ⟨g, i * 4 + j, none⟩) → w'.cell? p = w.cell? p := fun p hp => by
    rw [hw]
    rw [cell_set_other _ (fun e => hp 3 (by omega) e.symm), cell_set_other _ (fun e => hp 2 (by omega) e.symm), cell_set_other _ (fun e => hp 1 (by omega) e.symm), cell_set_other _ (fun e => hp 0 (by omega) (by rw [← e]; rfl))]
  have h3 : w'.cell? ⟨g, i * 4 + 3, none⟩ = some (.slice none 0 0) := by
    rw [hw]
    obtain ⟨⟨u, hu⟩, _⟩ := hc 3 (by omega)
    refine cell_set_same (u := u) _ ?_
    rw [cell_set_other _ (by simp), cell_set_other _ (by simp), cell_set_other _ (by simp)]
    exact hu
  have hS : ∀ (W : World) (p : Addr) (v : Value), p.block = g → But (fun b => lo ≤ b ∧ b < hi) W (W.setCell p v) := fun W p v e => But.set (a := p) (S := fun b => lo ≤ b ∧ b < hi) (by rw [e]; exact ⟨k1, k2⟩) _
  have hbut : But (fun b => lo ≤ b ∧ b < hi) w w' := by
    rw [hw]
    exact (((hS _ _ _ rfl).trans (hS _ _ _ rfl)).trans (hS _ _ _ rfl)).trans (hS _ _ _ rfl)
  have hcell : ∀ i' j, i' < n → j < 4 → ∃ u, w'.cell? ⟨g, i' * 4 + j, none⟩ = some u := fun i' j hi' hj => by
    have key : ∀ (W : World) (p q : Addr) (v : Value), (∃ u, W.cell? p = some u) → ∃ u, (W.setCell q v).cell? p = some u := fun W p q v ⟨u, hu⟩ => by
      by_cases e : q = p
      · subst e; exact ⟨v, cell_set_same _ hu⟩
      · exact ⟨u, (cell_set_other _ e).trans hu⟩
    obtain ⟨g', e, _, _, _, hc'⟩ := h.row i' hi'
    injection e with e
    injection e with e
    subst e
    rw [hw]
    exact key _ _ _ _ (key _ _ _ _ (key _ _ _ _ (key _ _ _ _ (hc' j hj).1)))
  refine ⟨⟨⟨by rw [List.length_set]; exact h.pw.len, fun i' hi' => ?_, fun i' hi' => ?_, fun i' hi' => ?_⟩, fun i' hi' => ?_⟩, hbut⟩
  · have h0 : i' < ys.length := by rw [List.length_set] at hi'; exact hi'
    refine ⟨g, 0, rfl, by omega, ?_⟩
    by_cases e : i' = i
    · subst e
      rw [List.getElem_set_self, Nat.zero_add]
      exact h3
    · rw [List.getElem_set_ne (fun e' => e e'.symm), Nat.zero_add]
      obtain ⟨g2, off, e2, _, hc2⟩ := h.pw.get i' h0
      injection e2 with e2
      injection e2 with e2 e3
      subst e2 e3
      rw [Nat.zero_add] at hc2
      refine (hfar _ (fun j hj e3 => ?_)).trans hc2
      injection e3 with _ e3 _
      omega
  · have h0 : i' < ys.length := by rw [List.length_set] at hi'; exact hi'
    by_cases e : i' = i
    · subst e
      rw [List.getElem_set_self]
      exact ⟨Nat.zero_le _, fun h => absurd h (Nat.lt_irrefl 0)⟩
    · rw [List.getElem_set_ne (fun e' => e e'.symm)]
      exact h.pw.form i' h0
  · have h0 : i' < ys.length := by rw [List.length_set] at hi'; exact hi'
    by_cases e : i' = i
    · subst e
      rw [List.getElem_set_self]
      intro b off _ k hk
      exact absurd hk (Nat.not_lt_zero _)
    · rw [List.getElem_set_ne (fun e' => e e'.symm)]
      intro b off ha k hk
      obtain ⟨⟨s, h1⟩, h2⟩ := h.pw.sw i' h0 b off ha k hk
      have hne : g ≠ b := by
        obtain ⟨b', off', e', _, _, hne⟩ := (h.pw.form i' h0).2 (by omega)
        rw [ha] at e'
        injection e' with e'
        injection e' with e1 e2
        subst e1
        exact hne _ rfl
      refine ⟨⟨s, (hfar _ (fun j hj e3 => ?_)).trans h1⟩, (hfr _).trans h2⟩
      injection e3 with e3 _ _
      exact hne e3.symm
  · refine ⟨g, rfl, k1, k2, by omega, fun j hj => ⟨hcell i' j hi' hj, ?_⟩⟩
    rw [hfr]
    obtain ⟨g', e, _, _, _, hc'⟩ := h.row i' hi'
    injection e with e
    injection e with e
    subst e
    exact (hc' j hj).2

/-- append of one change, told by its cells. -/
theorem wp_app_ch {w : World} {o : Oper} {a : Act} {K : Act → World → Prop} {Q : Exit → Act → World → Prop} (hgd : o.guard = none) (P : Nat → Prop) (s x : Operand)
    (ho : o.op = .call { callee := .builtin .append, args := #[s, x], argTypes := #[35, 35] })
    (base : Nat) (v : Value) (xs : List (Int × RC)) (L : List (Int × Rl)) (hs : a.eval s = v) (h1 : OwnCh P w base v xs L)
    (g0 c : Nat) (k : Int) (y : RC) (r : Rl) (hx : a.eval x = .slice (some ⟨g0, 0, none⟩) 1 c) (hyc : w.heap[g0]? = some (.cells #[.int .i64 k, .int .i64 y.p, .string y.m, .int .i64 y.k, .slice y.a y.n y.c] 53 (0, 0)))
    (hyr : RdC (okP P v) w y r) (tot : Nat) (htot : L.length + 1 = tot) (hbytes : tot * 64 ≤ 140737488355328) (hbase : base ≤ w.heap.size)
    (h : ∀ ad cap w', OwnCh P w' base (.slice ad tot cap) (xs ++ [(k, y)]) (L ++ [(k, r)]) → w.grownBy w' v.ownBlock → K (a.put o.dst (.slice ad tot cap)) w') : Oper.wp Try.prog o a w K Q := by
  have h0 := step_app_ch (ops := #[]) (E := False) (Q := Q) hgd P s x ho base v xs L hs h1 g0 c k y r hx hyc hyr tot htot hbytes hbase h
  rwa [if_pos (by simp [Region.wanted, hgd])] at h0
end Go.Proofs.Ytlbelkjgaeaaeaa
/-
  Walks: StoreOwn.
-/
namespace Go.Proofs.Ytlbelkjgaeaaeaa
open Go.RowKit Go.Shelf Go.Lib Go.Sort
set_option linter.unusedVariables false
set_option linter.unusedSectionVars false
set_option linter.unusedSimpArgs false

set_option maxHeartbeats 12800000 in
set_option maxRecDepth 20000 in
theorem StoreOwn_walk (W : Int) (v1 : Value) (l : List (Int × Rl)) (w : World) (h1 : RdsC (fun _ => True) w v1 l) (z1 : l.length * 64 ≤ 140737488351232) :
    Calls Try.prog 4 #[.int .i64 W, v1] w fun e w' => e = .returned (.bool true) ∧ Below w.heap.size w w' := by
  by_cases hW : 1 ≤ W ∧ W ≤ 128
  · have HNw := Lib.hid (snew_ok W w w.heap.size (Nat.le_refl _) hW.1 hW.2)
    have HNr := Lib.hid (fun w1 (h : w.heap.size ≤ w1.heap.size) => rsnew_ok W w1 w.heap.size h hW.1 hW.2)
    obtain ⟨i0, hi, hz0, hz1, hz2⟩ := info_parts infoS
    obtain ⟨ad1, cap1, rfl, hc1, hm1⟩ := h1.form
    unfold maxLen at hm1
    have HC0 := Lib.hid h1
    obtain ⟨n0, hn0⟩ : ∃ n0, l.length = n0 := ⟨_, rfl⟩
    have HN0 := Lib.hid hn0
    rw [hn0] at HC0 hc1 ⊢
    clear h1 z1 hn0
    go_enter Try.func4, Try.ntmps4
    go_wp2_with fail
    refine HNw.out.mono ?_
    rintro e w1 ⟨rfl, hS1, hb1, hs1⟩
    have HS1 := Lib.hid hS1
    have HB1 := Lib.hid hb1
    have Hs1 := Lib.hid hs1
    have hw1s := hb1.size
    clear hS1 hb1 hs1
    go_wp2_with fail
    refine (HNr.out _ hw1s).mono ?_
    rintro e w2 ⟨rfl, hR2, hb2, hs2⟩
    obtain ⟨N, hN⟩ : ∃ N, w2.heap.size = N := ⟨_, rfl⟩
    obtain ⟨B, hB⟩ : ∃ B, w.heap.size = B := ⟨_, rfl⟩
    rw [Hs1.out, hB] at hR2
    have hS2 := HS1.out.below hb2
    rw [hB] at hS2
    have HS2 := Lib.hid hS2
    have HR2 := Lib.hid hR2
    have hNB : N = B + 6 := by have := Hs1.out; omega
    have HNB := Lib.hid hNB
    have HB2 : Hid (Below B w w2) := by
      have h := HB1.out.trans (hb2.mono hw1s)
      rwa [hB] at h
    have HN2 := Lib.hid hN
    have HBw := Lib.hid hB
    rw [show w1.heap.size + 2 = B + 5 by have := Hs1.out; omega]
    try rw [show w.heap.size + 2 = B + 2 by omega]
    clear hS2 hR2 hb2 hs2 HS1 HB1 Hs1 hw1s hNB hN hB
    obtain ⟨L, n, cap, hcase⟩ : ∃ (L : List (Int × Rl)) (n cap : Nat), Hid (RdsC (fun _ => True) w (.slice ad1 n cap) L) ∧ Hid (n = L.length) ∧ n ≤ 60 ∧ ((60 < n0 ∧ n = 60 ∧ cap = cap1) ∨ (n0 ≤ 60 ∧ n = n0 ∧ cap = cap1)) := by
      by_cases h : 60 < n0
      · have h2 := HC0.out.part 0 60 (by omega) (by omega)
        refine ⟨(l.take 60).drop 0, 60, cap1, ?_, ?_, by omega, .inl ⟨h, rfl, rfl⟩⟩
        · rw [if_neg (by omega)] at h2
          exact (by
            have e : Option.map (fun x => x.add (0 * 5)) ad1 = ad1 := by cases ad1 <;> simp [Addr.add]
            rw [e] at h2
            exact h2)
        · show _ = _
          rw [List.length_drop, List.length_take]; have := HN0.out; omega
      · exact ⟨l, n0, cap1, HC0, HN0.out.symm, by omega, .inr ⟨by omega, rfl, rfl⟩⟩
    obtain ⟨HC, HN, hn60, hcase⟩ := hcase
    have hlit : Hid (L.length * 64 ≤ 140737488351232) := by show _ ≤ _; have := HN.out; omega
    rcases hcase with ⟨hq1, hq2, hq3⟩ | ⟨hq1, hq2, hq3⟩
    all_goals
      have hqz : ((60 : Int) < (n0 : Int) ∧ 60 < n0) ∨ (decide ((60 : Int) < (n0 : Int)) = false ∧ ¬ 60 < n0) := by
        by_cases h : 60 < n0
        · exact .inl ⟨by omega, h⟩
        · exact .inr ⟨by simp; omega, h⟩
      rcases hqz with ⟨hqz, hqy⟩ | ⟨hqz, hqy⟩
      all_goals try (exfalso; omega)
      all_goals
        go_wp2_with fail
        first | rw [show Value.slice ad1 60 cap1 = Value.slice ad1 n cap1 by rw [hq2]] | rw [show Value.slice ad1 n0 cap1 = Value.slice ad1 n cap1 by rw [hq2]]
        subst hq3
        clear hq1 hq2 hqz hqy
        go_loopw [9, 10] (fun s9 s10 wr => ∃ (i : Nat) (ad : Option Addr) (c : Nat) (xs : List (Int × RC)), s10 = .int .i64 i ∧ s9 = .slice ad i c ∧ i ≤ n ∧ Hid (xs.length = i) ∧ Hid (OwnCh (fun b => N ≤ b) wr N (.slice ad i c) xs (L.take i)) ∧ Hid (∀ j (h : j < xs.length), Pf wr xs[j].2) ∧ Hid (Below N w2 wr)) (fun _ s10 _ => n - (intOf s10).toNat)
        case atStart => exact ⟨0, none, 0, [], rfl, rfl, Nat.zero_le _, rfl, ownCh_nil _ _ _, (fun j h => absurd h (Nat.not_lt_zero _)), (by rw [← HN2.out]; exact Below.refl _ _ : Below N w2 w2)⟩
        case round =>
          obtain ⟨wo, rfl⟩ : ∃ wo : World, wo = wr := ⟨wr, rfl⟩
          obtain ⟨i, ad, c, xs, rfl, rfl, hin, HXl, HO, HPf, HB⟩ := hrel
          by_cases hlt : i < n
          · have hiL : i < L.length := by rw [← HN.out]; exact hlt
            have hltz : (i : Int) < (n : Int) := by omega
            have hB2 : Below w.heap.size w wo := by
              rw [HBw.out]
              exact HB2.out.trans (HB.out.mono (by have := HNB.out; omega))
            obtain ⟨b, off, k, x, rfl, hb, _, hk, x0, x1, x2, x3, x4, hx⟩ := HC.out.get i hiL
            have X0 := (hB2.cell (p := ⟨b, off + i * 5, none⟩) hb).trans x0
            have X1 := (hB2.cell (p := ⟨b, off + i * 5 + 1, none⟩) hb).trans x1
            have X2 := (hB2.cell (p := ⟨b, off + i * 5 + 2, none⟩) hb).trans x2
            have X3 := (hB2.cell (p := ⟨b, off + i * 5 + 3, none⟩) hb).trans x3
            have X4 := (hB2.cell (p := ⟨b, off + i * 5 + 4, none⟩) hb).trans x4
            have hxo := hx.below hB2
            obtain ⟨r, hrr⟩ : ∃ r, L[i].2 = r := ⟨_, rfl⟩
            rw [hrr] at hxo
            have HKr : Hid (L.take i ++ [(k, r)] = L.take (i + 1)) := by show _ = _; rw [List.take_succ_eq_append_getElem hiL, hk, ← hrr]
            have HTl : Hid ((L.take i).length = i) := by show _ = _; rw [List.length_take]; omega
            obtain ⟨W2, hW2⟩ : ∃ W2, W2 = wo.alloc (.cells #[.int .i64 k, .int .i64 x.p, .string x.m, .int .i64 x.k, .slice x.a x.n x.c] 53) := ⟨_, rfl⟩
            obtain ⟨W3, hW3⟩ : ∃ W3, W3 = W2.alloc (.cells #[] 9) := ⟨_, rfl⟩
            have hg : Grn wo W3 := by rw [hW3, hW2]; exact ((Grn.refl _).alloc _).alloc _
            have hs2 : W2.heap.size = wo.heap.size + 1 := by rw [hW2]; simp
            have hs3 : W3.heap.size = wo.heap.size + 2 := by rw [hW3]; simp [hs2]
            have h0 : W3.heap[wo.heap.size]? = some (.cells #[.int .i64 k, .int .i64 x.p, .string x.m, .int .i64 x.k, .slice x.a x.n x.c] 53 (0, 0)) := by
              rw [hW3, hW2]; simp only [al_heap, Array.getElem?_push, Array.size_push]; simp <;> omega
            have hown : W3.ownsRow (wo.heap.size + 1) 9 1 (.slice (some ⟨wo.heap.size + 1, 0, none⟩) 0 0) 0 [] := by
              rw [hW3]; exact lit0_rowE hs2.symm (Nat.le_refl _)
            have y4 : W3.cell? ⟨wo.heap.size, 1 + 2 + 1, none⟩ = some (.slice x.a x.n x.c) := by simp [World.cell?, h0]
            have HOW := Lib.hid hown
            have HRs := Lib.hid (hxo.s.1.below hg.below)
            have HG := Lib.hid hg.below
            have H0 := Lib.hid h0
            have HXo := Lib.hid hxo
            have hxn : x.n = r.ps.length := by
              obtain ⟨ad, len, cap, e, hl, _, _⟩ := rdsS_form hxo.s.1
              injection e with _ e2 _
              rw [e2, hl]
            have HXn := Lib.hid hxn
            have HSz := Lib.hid hs3
            rw [hW2] at hW3
            have HW2 := Lib.hid hW2
            have HW3 := Lib.hid hW3
            have hNo : N ≤ wo.heap.size := by have := HB.out.size; have := HN2.out; omega
            obtain ⟨nn, hnn⟩ : ∃ nn, nn = r.ps.length := ⟨_, rfl⟩
            have HNN := Lib.hid hnn
            clear x0 x1 x2 x3 x4 hx hk hxo hrr hW2 hW3 hg hs2 hs3 h0 hown hxn hnn hB2
            go_upto_region 13 with (at_builtin; rw [← HW3.out]; go_loud (refine wpList_append_rds rfl (.tmp 60) (.tmp 64) _ rfl (wo.heap.size + 1) 9 i0 _ 16 Try.underlying47 hi hz0 hz1 hz2 rfl (.slice (some ⟨wo.heap.size + 1, 0, none⟩) 0 0) 0 [] rfl HOW.out _ (r.ps.map Value.string) rfl HRs.out str_one nn (by rw [List.length_map, HNN.out]; omega) (by have := HXo.out.z.n; have := HNN.out; unfold maxLen; omega) (by have := HXo.out.z.n; have := HNN.out; omega) (by rw [HSz.out]; omega) ?_); intro ad2 cap2 w4 h4 hg4; have HO4 := Lib.hid h4; have HG4 := Lib.hid hg4; have b0 := (hg4.block wo.heap.size (by rw [HSz.out]; omega) (by simp [Value.ownBlock])).trans H0.out; have z0 : w4.cell? ⟨wo.heap.size, 0, none⟩ = some (.int .i64 k) := (by simp [World.cell?, b0]); have z1 : w4.cell? ⟨wo.heap.size, 1, none⟩ = some (.int .i64 x.p) := (by simp [World.cell?, b0]); have z2 : w4.cell? ⟨wo.heap.size, 2, none⟩ = some (.string x.m) := (by simp [World.cell?, b0]); have z3 : w4.cell? ⟨wo.heap.size, 3, none⟩ = some (.int .i64 x.k) := (by simp [World.cell?, b0]); have z4 : w4.cell? ⟨wo.heap.size, 1 + 2 + 1, none⟩ = some (.slice x.a x.n x.c) := (by simp [World.cell?, b0]); have f4 : w4.frozen? ⟨wo.heap.size, 1 + 2 + 1, none⟩ = false := (by simp [World.frozen?, b0]); clear h4 hg4 b0)
            obtain ⟨w5, hw5⟩ : ∃ w5, w5 = w4.setCell ⟨wo.heap.size, 4, none⟩ (.slice ad2 nn cap2) := ⟨_, rfl⟩
            have hb4 : Below wo.heap.size wo w4 := HG.out.grown HG4.out (by rw [HSz.out]; omega) (fun k hk => by have e := Option.some.inj (show some (wo.heap.size + 1) = some k from hk); omega)
            have hs4 : wo.heap.size + 2 ≤ w4.heap.size := by have := HG4.out.size; have := HSz.out; omega
            have hb5 : Below wo.heap.size wo w5 := by rw [hw5]; exact hb4.setCell (Nat.le_refl _) _
            have hbut5 : But (fun b => b = wo.heap.size) w4 w5 := by rw [hw5]; exact But.set (S := fun b => b = wo.heap.size) (a := ⟨wo.heap.size, 4, none⟩) rfl _
            have hs5 : w5.heap.size = w4.heap.size := by rw [hw5]; simp [World.setCell]
            have hrow := ownsRow_rds HO4.out
            rw [List.nil_append] at hrow
            have hblk : ∀ a' n' c', Value.slice ad2 nn cap2 = .slice (some a') n' c' → wo.heap.size + 1 ≤ a'.block := fun a' n' c' hv => by
              injection hv with e1 _ _
              exact (HO4.out.lt a'.block (by rw [e1]; rfl)).1
            have hro : RdsO (fun b => wo.heap.size + 1 ≤ b) w4 (.slice ad2 nn cap2) r.ps := ⟨hrow, fun a' n' c' hv _ => hblk a' n' c' hv⟩
            have hrc4 : RdC (fun b => wo.heap.size + 1 ≤ b) w4 ⟨x.p, x.m, x.k, ad2, nn, cap2⟩ r := ⟨HXo.out.p, HXo.out.m, HXo.out.k, hro, HXo.out.z⟩
            have hp4 : Pf w4 ⟨x.p, x.m, x.k, ad2, nn, cap2⟩ := ownsRow_pf HO4.out
            have hrc5 := hrc4.but hbut5 (fun b hb e => by omega)
            have hp5 := hp4.but hrc4 hbut5 (fun b hb e => by omega)
            have q0 : w5.cell? ⟨wo.heap.size, 0, none⟩ = some (.int .i64 k) := by rw [hw5]; exact (cell_set_other _ (by simp)).trans z0
            have q1 : w5.cell? ⟨wo.heap.size, 1, none⟩ = some (.int .i64 x.p) := by rw [hw5]; exact (cell_set_other _ (by simp)).trans z1
            have q2 : w5.cell? ⟨wo.heap.size, 2, none⟩ = some (.string x.m) := by rw [hw5]; exact (cell_set_other _ (by simp)).trans z2
            have q3 : w5.cell? ⟨wo.heap.size, 3, none⟩ = some (.int .i64 x.k) := by rw [hw5]; exact (cell_set_other _ (by simp)).trans z3
            have q4 : w5.cell? ⟨wo.heap.size, 4, none⟩ = some (.slice ad2 nn cap2) := by rw [hw5]; exact cell_set_same _ z4
            obtain ⟨W6, hW6⟩ : ∃ W6, W6 = w5.alloc (.cells #[.int .i64 k, .int .i64 x.p, .string x.m, .int .i64 x.k, .slice ad2 nn cap2] 53) := ⟨_, rfl⟩
            have hba : Below w5.heap.size w5 W6 := by rw [hW6]; exact (Below.refl _ _).alloc (Nat.le_refl _) _
            have hh6 : W6.heap[w5.heap.size]? = some (.cells #[.int .i64 k, .int .i64 x.p, .string x.m, .int .i64 x.k, .slice ad2 nn cap2] 53 (0, 0)) := by rw [hW6]; exact heap_alloc_new _ _
            have hs6 : W6.heap.size = w5.heap.size + 1 := by rw [hW6]; simp
            have HB6 : Hid (Below wo.heap.size wo W6) := hb5.trans (hba.mono (by omega))
            have HO6 := Lib.hid (HO.out.below HB6.out)
            have HYr : Hid (RdC (okP (fun b => N ≤ b) (.slice ad i c)) W6 ⟨x.p, x.m, x.k, ad2, nn, cap2⟩ r) := (hrc5.below hba).mono (fun b hb => ⟨by omega, fun e => by have := (HO.out.row.lt b e).2; omega⟩)
            have HYp := Lib.hid (hp5.below hrc5 hba)
            have HPo := Lib.hid (fun j (h : j < xs.length) => (HPf.out j h).below (HO.out.rd j h (by rw [← HO.out.len]; exact h)).2 HB6.out)
            have HH6 := Lib.hid hh6
            have HW5 := Lib.hid hw5
            have HW6 := Lib.hid hW6
            have HS6 := Lib.hid (show wo.heap.size + 2 ≤ W6.heap.size by omega)
            clear hb4 hs4 hb5 hbut5 hs5 hrow hblk hro hrc4 hp4 hrc5 hp5 hba hh6 hs6 hw5 hW6
            rw [← HW5.out]
            clear z0 z1 z2 z3 z4 f4
            go_wp2_with (at_builtin; rw [← HW6.out]; go_loud (refine wpList_plain rfl (fun _ hK => wp_app_ch rfl (fun b => N ≤ b) (.tmp 69) (.tmp 71) rfl N (.slice ad i c) xs (L.take i) (by rfl) HO6.out w5.heap.size 1 k ⟨x.p, x.m, x.k, ad2, nn, cap2⟩ r (by rfl) HH6.out HYr.out (i + 1) (by rw [HTl.out]) (by omega) (by have := HS6.out; omega) (fun ad4 c4 w7 ho7 hg7 => hK _ _ ?_))); have HO7 := Lib.hid ho7; have HG7 := Lib.hid hg7; clear ho7 hg7)
            have HP7 := Lib.hid (app_pf (w9 := W6) (W := W6) HO6.out HPo.out HYr.out HYp.out (Below.refl _ _) HG7.out (k := k))
            have HB7 : Hid (Below N w2 w7) := (HB.out.trans (HB6.out.mono hNo)).grown HG7.out (by have := HS6.out; omega) (fun k hk => (HO6.out.row.lt k hk).1)
            have HX7 : Hid ((xs ++ [(k, (⟨x.p, x.m, x.k, ad2, nn, cap2⟩ : RC))]).length = i + 1) := by show _ = _; rw [List.length_append, HXl.out]; rfl
            rw [HKr.out] at HO7
            go_roundw
            case rel => exact ⟨i + 1, ad4, c4, _, by first | rfl | go_num, rfl, by omega, HX7.out, HO7.out, HP7.out, HB7.out⟩
            case measure => simp [intOf]; omega
          · have hin' : i = n := by omega
            have hltz : decide ((i : Int) < (n : Int)) = false := by simp; omega
            have HF : Hid (L.take i = L) := by show _ = _; rw [hin']; exact List.take_of_length_le (by have := HN.out; omega)
            have hpw := HO.out.pw HPf.out (fun b hb => hb) HXl.out
            have hlo : ∀ a, ad = some a → N ≤ a.block := fun a e => (HO.out.row.lt a.block (by rw [e]; rfl)).1
            rw [HF.out] at HO
            have HR1 := Lib.hid (HO.out.toRds fun b hb => hb)
            have HP1 := Lib.hid hpw
            have HLo := Lib.hid hlo
            obtain ⟨ys, hys⟩ : ∃ ys, ys = xs.map (·.2) := ⟨_, rfl⟩
            rw [← hys] at HP1
            have hNo : N ≤ wo.heap.size := by have := HB.out.size; have := HN2.out; omega
            have HNo := Lib.hid hNo
            have hB2 : Below w.heap.size w wo := by
              rw [HBw.out]
              exact HB2.out.trans (HB.out.mono (by have := HNB.out; omega))
            have hSo := HS2.out.below (by rw [HN2.out]; exact HB.out)
            have hRo := HR2.out.below (by rw [HN2.out]; exact HB.out)
            have HI1 := Lib.hid (install_all hSo HR1.out hlit.out (by have := HNB.out; omega) (by omega) (Nat.le_refl _))
            have HRo := Lib.hid hRo
            have HBo := Lib.hid hB2
            obtain ⟨E, hE⟩ : ∃ E, Fb.endL W [] L = E := ⟨_, rfl⟩
            have HEo : Hid (Fb.Ok W E) := by rw [← hE]; exact (Fb.ok_nil W).end_ L
            have HE := Lib.hid hE
            clear hpw hlo hys HF HO HPf HXl hin' hB2 hSo hRo hE hNo
            go_wp2_with fail
            refine HI1.out.mono ?_
            rintro e w3 ⟨a3, b3, c3, rfl, ⟨v3, vo3, us3, ver, olds, hI3⟩, hb3⟩
            rw [HE.out] at hI3
            have hvoS : ∀ b, (Value.slice (some ⟨B + 1, 0, none⟩) 1 1).ownBlock = some b → b = B + 1 := fun b hb => by
              injection hb with hb
              exact hb.symm
            have hbt3 : But (fun b => b = B + 2 ∨ b = B ∨ b = B + 1) wo w3 := hb3.mono fun b hb => hb.imp id (fun h => h.imp id (hvoS b))
            have hb3s := hbt3.size
            have HI3 := Lib.hid hI3
            have HR3 := Lib.hid (HRo.out.but hbt3 (fun e => by omega) (fun e => by omega) (fun b h => h.elim) (fun b hb e => by
              injection hb with hb
              have hb : B + 3 + 1 = b := hb
              omega))
            have HP3 := Lib.hid (HP1.out.but hbt3 (fun b hb e => by have := HNB.out; omega) HLo.out)
            have HB3 : Hid (Below w.heap.size w w3) := HBo.out.trans (hbt3.toBelow (by have := HNo.out; have := HNB.out; have := HBw.out; omega) (fun k hk => by have := HBw.out; omega))
            have HI4 := Lib.hid (rinstall_all HR3.out (HC.out.below HB3.out) hlit.out (by have := HNB.out; have := HNo.out; omega) (by omega) (by omega))
            have Hs3 := Lib.hid hb3s
            clear hI3 hb3 hbt3 hvoS HI1 HRo HR1 HP1 hb3s
            go_wp2_with fail
            refine HI4.out.mono ?_
            rintro e w4 ⟨a4, b4, c4, rfl, ⟨v4, vo4, us4, ver4, olds4, hI5⟩, hb4⟩
            rw [HE.out] at hI5
            have hvoR : ∀ b, (Value.slice (some ⟨B + 3 + 1, 0, none⟩) 1 1).ownBlock = some b → b = B + 4 := fun b hb => by
              injection hb with hb
              have hb : B + 3 + 1 = b := hb
              omega
            have hbt4 : But (fun b => b = B + 5 ∨ b = B + 3 ∨ b = B + 4) w3 w4 := hb4.mono fun b hb => by
              rcases hb with h | h | h
              · omega
              · omega
              · have := hvoR b h; omega
            have hb4s := hbt4.size
            have hov3 : ∀ b, vo3.ownBlock = some b → b = B + 1 ∨ wo.heap.size ≤ b := fun b hb => (HI3.out.own b hb).imp (fun h => by injection h with h; exact h.symm) id
            have HV3 := Lib.hid hov3
            have HS4 := Lib.hid (HI3.out.sto.but hbt4 (fun e => by omega) (fun e => by omega) (fun b hb e => by have := HNo.out; have := HNB.out; have := hb.1; omega) (fun b hb e => by have := hov3 b hb; have := HNo.out; have := HNB.out; omega))
            have hov4 : ∀ b, vo4.ownBlock = some b → b = B + 4 ∨ w3.heap.size ≤ b := fun b hb => (hI5.own b hb).imp (fun h => hvoR b h) id
            have HP4 := Lib.hid (HP3.out.but hbt4 (fun b hb e => by have := HNB.out; omega) HLo.out)
            have HB4 : Hid (Below w.heap.size w w4) := HB3.out.trans (hbt4.toBelow HB3.out.size (fun k hk => by have := HBw.out; omega))
            have HV4 := Lib.hid hov4
            have HIR := Lib.hid hI5
            have Hs4 := Lib.hid hb4s
            clear hov3 hov4 hvoR hb4 hbt4 hb4s hI5 HI4 HP3 HR3
            go_wp2_with fail
            go_loopw [81] (fun s81 wr => ∃ a : Nat, s81 = .int .i64 a ∧ a ≤ i ∧ Hid (PW 5 4 N wo.heap.size wr ad i ys) ∧ Hid (But (fun b => N ≤ b ∧ b < wo.heap.size) w4 wr)) (fun s81 _ => i - (intOf s81).toNat)
            case atStart => exact ⟨0, rfl, Nat.zero_le _, HP4.out, But.refl _ _⟩
            case round =>
              obtain ⟨wa, rfl⟩ : ∃ wa : World, wa = wr := ⟨wr, rfl⟩
              obtain ⟨a, rfl, hai, HPa, HBa⟩ := hrel
              by_cases hal : a < i
              · obtain ⟨x, hi2, hx, hxn, g, off, rfl, hcc⟩ := HPa.out.at a hal
                have HX := Lib.hid hx
                have hcc1 : wa.cell? ⟨g, off + a * 5 + 1 + 2 + 1, none⟩ = some (.slice x.a x.n x.c) := hcc
                clear hx hcc
                go_wp2_with fail
                go_loopw [92] (fun s92 wr => ∃ j : Nat, s92 = .int .i64 j ∧ j ≤ x.n ∧ Hid (PW 5 4 N wo.heap.size wr (some ⟨g, off, none⟩) i ys) ∧ Hid (But (fun b => N ≤ b ∧ b < wo.heap.size) w4 wr)) (fun s92 _ => x.n - (intOf s92).toNat)
                case atStart => exact ⟨0, rfl, Nat.zero_le _, HPa.out, HBa.out⟩
                case round =>
                  obtain ⟨wb, rfl⟩ : ∃ wb : World, wb = wr := ⟨wr, rfl⟩
                  obtain ⟨j, rfl, hjx, HPb, HBb⟩ := hrel
                  by_cases hjl : j < x.n
                  · obtain ⟨pb, poff, s0, ha, hs, hf, hst⟩ := HPb.out.store hi2 HX.out hjl
                    obtain ⟨g', off', e', _, hcb⟩ := HPb.out.get a hi2
                    injection e' with e'
                    injection e' with e1 e2 _
                    subst e1 e2
                    rw [HX.out, ha] at hcb
                    have hcb1 : wb.cell? ⟨g, off + a * 5 + 1 + 2 + 1, none⟩ = some (.slice (some ⟨pb, poff, none⟩) x.n x.c) := hcb
                    have HSt := Lib.hid hst
                    clear hst hcb ha hcc1
                    go_wp2_with fail
                    go_roundw
                    case rel => exact ⟨j + 1, by first | rfl | go_num, by omega, (HSt.out _).1, HBb.out.trans (HSt.out _).2⟩
                    case measure => simp [intOf]; omega
                  · go_wp2_with fail
                    go_roundw
                    case rel => exact ⟨a + 1, by first | rfl | go_num, by omega, HPb.out, HBb.out⟩
                    case measure => simp [intOf]; omega
              · have hba := HBa.out
                have HB5 : Hid (Below w.heap.size w wa) := HB4.out.trans (hba.toBelow HB4.out.size (fun k hk => by have := HNB.out; have := HBw.out; omega))
                have HS5 := Lib.hid (HS4.out.but hba (fun e => by have := HNB.out; omega) (fun e => by have := HNB.out; omega) (fun b hb e => by have := hb.1; omega) (fun b hb e => by have := HV3.out b hb; have := HNB.out; omega))
                have HR5 := Lib.hid (HIR.out.sto.but hba (fun e => by have := HNB.out; omega) (fun e => by have := HNB.out; omega) (fun b hb e => by have := hb.1; have := Hs3.out; omega) (fun b hb e => by have := HV4.out b hb; have := HNB.out; have := Hs3.out; omega))
                have hs5 := hba.size
                have Hs5 := Lib.hid hs5
                obtain ⟨m, hm⟩ : ∃ m, m = E.length := ⟨_, rfl⟩
                have hm4 : m ≤ 4096 := by rw [hm]; exact HEo.out.few
                have HRu := Lib.hid (rules_sto_own HS5.out HEo.out.few)
                rw [← hm] at HRu
                have HMm := Lib.hid hm
                clear hba hm hs5 HP4 HPa HBa
                go_wp2_with fail
                refine HRu.out.mono ?_
                rintro e w6 ⟨ad6, c6, xs6, rfl, ho6, hp6, hb6⟩
                have HT6 := Lib.hid (ho6.tw hp6 (by rw [ho6.len, HMm.out]))
                have HB6 : Hid (Below w.heap.size w w6) := HB5.out.trans (hb6.mono HB5.out.size)
                have hs6 := hb6.size
                have HS6 : Hid (Sto (fun b => wo.heap.size ≤ b ∧ vo3.ownBlock ≠ some b ∧ b < wa.heap.size) B w6 (B + 2) B v3 vo3 us3 E W ver 1 olds) := (HS5.out.toP _ (fun b hb hl => ⟨hb.1, hb.2, hl⟩) (fun b hb => by have := HNo.out; have := HNB.out; omega) (fun b hb => by have := HNo.out; have := HNB.out; omega) (fun b hb e => e.2.1 hb)).below hb6
                have HR6 : Hid (RSto (fun b => w3.heap.size ≤ b ∧ vo4.ownBlock ≠ some b ∧ b < wa.heap.size) B w6 (B + 3 + 2) (B + 3) v4 vo4 us4 E W ver4 1 olds4) := (HR5.out.toP _ (fun b hb hl => ⟨hb.1, hb.2, hl⟩) (fun b hb => by have := HNo.out; have := HNB.out; have := Hs3.out; omega) (fun b hb => by have := HNo.out; have := HNB.out; have := Hs3.out; omega) (fun b hb e => e.2.1 hb)).below hb6
                have hov3a : ∀ b, vo3.ownBlock = some b → b < wa.heap.size := fun b hb => (own_lt HS5.out.own hb).2
                have hov4a : ∀ b, vo4.ownBlock = some b → b < wa.heap.size := fun b hb => (own_lt HR5.out.own hb).2
                have HV3a := Lib.hid hov3a
                have HV4a := Lib.hid hov4a
                clear ho6 hp6 hb6 hov3a hov4a HRu HS5 HR5 HS4
                go_wp2_with fail
                go_loopw [110] (fun s110 wr => ∃ (a2 : Nat) (zs : List RC), s110 = .int .i64 a2 ∧ a2 ≤ m ∧ Hid (TW wa.heap.size w6.heap.size wr ad6 m zs) ∧ Hid (But (fun b => wa.heap.size ≤ b ∧ b < w6.heap.size) w6 wr)) (fun s110 _ => m - (intOf s110).toNat)
                case atStart => exact ⟨0, xs6, rfl, Nat.zero_le _, HT6.out, But.refl _ _⟩
                case round =>
                  obtain ⟨wc, rfl⟩ : ∃ wc : World, wc = wr := ⟨wr, rfl⟩
                  obtain ⟨a2, zs, rfl, ham, HPc, HBc⟩ := hrel
                  by_cases hcl : a2 < m
                  · obtain ⟨g, rfl, _, _, _, _⟩ := HPc.out.row a2 hcl
                    obtain ⟨x, hi2, hx, hxn, g', off', e', hcc⟩ := HPc.out.pw.at a2 hcl
                    injection e' with e'
                    injection e' with e1 e2 _
                    subst e1 e2
                    have HX := Lib.hid hx
                    have hcc1 : wc.cell? ⟨g, a2 * 4 + 2 + 1, none⟩ = some (.slice x.a x.n x.c) := by
                      have h := hcc
                      rw [Nat.zero_add] at h
                      exact h
                    clear hx hcc
                    go_wp2_with fail
                    go_loopw [120] (fun s120 wr => ∃ j : Nat, s120 = .int .i64 j ∧ j ≤ x.n ∧ Hid (TW wa.heap.size w6.heap.size wr (some ⟨g, 0, none⟩) m zs) ∧ Hid (But (fun b => wa.heap.size ≤ b ∧ b < w6.heap.size) w6 wr)) (fun s120 _ => x.n - (intOf s120).toNat)
                    case atStart => exact ⟨0, rfl, Nat.zero_le _, HPc.out, HBc.out⟩
                    case round =>
                      obtain ⟨wb, rfl⟩ : ∃ wb : World, wb = wr := ⟨wr, rfl⟩
                      obtain ⟨j, rfl, hjx, HPb, HBb⟩ := hrel
                      by_cases hjl : j < x.n
                      · obtain ⟨pb, poff, s0, ha, hs, hf, hst⟩ := HPb.out.store hi2 HX.out hjl
                        obtain ⟨g', off', e', _, hcb⟩ := HPb.out.pw.get a2 hi2
                        injection e' with e'
                        injection e' with e1 e2 _
                        subst e1 e2
                        rw [HX.out, ha, Nat.zero_add] at hcb
                        have hcb1 : wb.cell? ⟨g, a2 * 4 + 2 + 1, none⟩ = some (.slice (some ⟨pb, poff, none⟩) x.n x.c) := hcb
                        have HSt := Lib.hid hst
                        clear hst hcb ha hcc1
                        go_wp2_with fail
                        go_roundw
                        case rel => exact ⟨j + 1, by first | rfl | go_num, by omega, (HSt.out _).1, HBb.out.trans (HSt.out _).2⟩
                        case measure => simp [intOf]; omega
                      · obtain ⟨g', e', _, _, _, hcs⟩ := HPb.out.row a2 hcl
                        injection e' with e'
                        injection e' with e1
                        subst e1
                        obtain ⟨⟨u0, k0⟩, f0⟩ := hcs 0 (by omega)
                        obtain ⟨⟨u1, k1⟩, f1⟩ := hcs 1 (by omega)
                        obtain ⟨⟨u2, k2⟩, f2⟩ := hcs 2 (by omega)
                        obtain ⟨⟨u3, k3⟩, f3⟩ := hcs 3 (by omega)
                        rw [Nat.add_zero] at k0 f0
                        have HCl := Lib.hid (HPb.out.clear (w' := _) hcl (.int .i64 0) (.string ⟨#[]⟩) (.int .i64 0) rfl)
                        clear hcs hcc1
                        go_wp2_with fail
                        go_roundw
                        case rel => exact ⟨a2 + 1, _, by first | rfl | go_num, by omega, HCl.out.1, HBb.out.trans HCl.out.2⟩
                        case measure => simp [intOf]; omega
                  · have hbc := HBc.out
                    have hlt0 : B + 6 ≤ wa.heap.size := by have := HNo.out; have := HNB.out; have := Hs3.out; have := Hs4.out; have := Hs5.out; omega
                    have HB7 : Hid (Below w.heap.size w wc) := HB6.out.trans (hbc.toBelow HB6.out.size (fun k hk => by have := HBw.out; omega))
                    have HS7 := Lib.hid (HS6.out.but hbc (fun e => by omega) (fun e => by omega) (fun b hb e => by have := hb.2.2; omega) (fun b hb e => by have := HV3a.out b hb; omega))
                    have HR7 := Lib.hid (HR6.out.but hbc (fun e => by omega) (fun e => by omega) (fun b hb e => by have := hb.2.2; omega) (fun b hb e => by have := HV4a.out b hb; omega))
                    obtain ⟨hx, hE⟩ := List.getElem?_eq_some_iff.1 HI3.out.last
                    have hAt := at_place HS7.out ver HI3.out.len hx (by have := HI3.out.le1; omega) HI3.out.few
                    rw [hE, HMm.out.symm] at hAt
                    have HAt := Lib.hid hAt
                    have HVe := Lib.hid (version_sto HS7.out)
                    have HRu7 : Hid (∀ Wx, Below wc.heap.size wc Wx → Calls Try.prog 8 #[.pointer (some ⟨B + 2, 0, none⟩)] Wx fun e w' => ∃ ad c, e = .returned (.slice ad m c) ∧ RdsR (fun b => Wx.heap.size ≤ b) w' (.slice ad m c) E ∧ Below Wx.heap.size Wx w') := fun Wx hWx => by
                      have h := rules_sto (HS7.out.below hWx) HEo.out.few
                      rwa [← HMm.out] at h
                    have HRr7 : Hid (∀ Wx, Below wc.heap.size wc Wx → Calls Try.prog 15 #[.pointer (some ⟨B + 5, 0, none⟩)] Wx fun e w' => ∃ ad c, e = .returned (.slice ad m c) ∧ RdsR (fun _ => True) w' (.slice ad m c) E ∧ Below Wx.heap.size Wx w') := fun Wx hWx => by
                      have h0 := HR7.out.below hWx
                      have h := rsrules_tab h0.c0 h0.tab HEo.out
                      rw [← HMm.out] at h
                      refine h.mono ?_
                      rintro e w' ⟨ad, c, he, hr, hb⟩
                      exact ⟨ad, c, he, hr.mono (fun _ _ => trivial), hb⟩
                    clear hbc hlt0 hx hE hAt HR6 HS6 HR7 HS7 HT6 HPc HBc
                    go_wp2_with fail
                    refine HVe.out.mono ?_
                    rintro e w7 ⟨rfl, rfl⟩
                    go_wp2_with fail
                    refine HAt.out.mono ?_
                    rintro e w8 ⟨ad8, c8, rfl, hr8, hb8⟩
                    have HR8 := Lib.hid hr8
                    have HB8 := Lib.hid hb8
                    clear hr8 hb8
                    go_wp2_with fail
                    refine (HRr7.out _ HB8.out).mono ?_
                    rintro e w9 ⟨ad9, c9, rfl, hr9, hb9⟩
                    have HSm := Lib.hid (sameRules_same _ _ _ _ _ w9 (HR8.out.below hb9) hr9)
                    have HB9 := Lib.hid (HB8.out.trans (hb9.mono HB8.out.size))
                    clear hr9 hb9
                    go_wp2_with fail
                    refine HSm.out.mono ?_
                    rintro e w10 ⟨rfl, hg10⟩
                    have HB10 := Lib.hid (HB9.out.trans (hg10.below.mono HB9.out.size))
                    clear hg10
                    go_wp2_with fail
                    refine (HRu7.out _ HB10.out).mono ?_
                    rintro e w11 ⟨ad11, c11, rfl, hr11, hb11⟩
                    have HR11 := Lib.hid hr11
                    have HB11 := Lib.hid (HB10.out.trans (hb11.mono HB10.out.size))
                    clear hr11 hb11
                    go_wp2_with fail
                    refine (HRr7.out _ HB11.out).mono ?_
                    rintro e w12 ⟨ad12, c12, rfl, hr12, hb12⟩
                    have HSm2 := Lib.hid (sameRules_same _ _ _ _ _ w12 (HR11.out.below hb12) hr12)
                    have HB12 := Lib.hid (HB11.out.trans (hb12.mono HB11.out.size))
                    clear hr12 hb12
                    go_wp2_with fail
                    refine HSm2.out.mono ?_
                    rintro e w13 ⟨rfl, hg13⟩
                    have HB13 := Lib.hid (HB12.out.trans (hg13.below.mono HB12.out.size))
                    clear hg13
                    go_wp2_with fail
                    refine (alive_any _).mono ?_
                    rintro e w14 ⟨rfl, hb14⟩
                    have HB14 := Lib.hid (HB13.out.trans (hb14.mono HB13.out.size))
                    clear hb14
                    go_wp2_with fail
                    go_ret
                    exact ⟨rfl, HB7.out.trans (HB14.out.mono HB7.out.size)⟩
  · have HNw := Lib.hid (fun w => snew_bad W w (by omega))
    have HNr := Lib.hid (fun w => rsnew_bad W w (by omega))
    obtain ⟨ad1, cap1, rfl, _, _⟩ := h1.form
    clear h1 hW
    go_enter Try.func4, Try.ntmps4
    go_wp2_with fail
    refine (HNw.out _).mono ?_
    rintro e w1 ⟨rfl, rfl⟩
    go_wp2_with fail
    refine (HNr.out _).mono ?_
    rintro e w2 ⟨rfl, rfl⟩
    go_wp2_with fail
    refine (alive_any _).mono ?_
    rintro e w3 ⟨rfl, hb3⟩
    have HB3 := Lib.hid hb3
    clear hb3
    go_wp2_with fail
    go_ret
    exact ⟨rfl, HB3.out⟩
end Go.Proofs.Ytlbelkjgaeaaeaa
/-
  Slices of rules that came in read as rules, and are no longer than their weights allow.
-/
namespace Go.Proofs.Ytlbelkjgaeaaeaa
open Go.ChangeShapes Go.WideShapes Go.RowKit Go.Deep

section
variable {H : Type} {P : Program}
theorem w_all {e : TypeId} : ∀ {l : List (DataW H)} {d : DataW H}, d ∈ l → ∀ n ∈ d.weights P e, n ∈ DataW.weightsAll P e l
  | x :: l, d, hd, n, hn => by
    rcases List.mem_cons.1 hd with rfl | hd
    · simp only [DataW.weightsAll, List.mem_append]; exact .inl hn
    · simp only [DataW.weightsAll, List.mem_append]; exact .inr (w_all hd n hn)
theorem w_elem {t e : TypeId} (hu : P.underlying t = some (.slice e)) {el sp : List (DataW H)} {d : DataW H} (hd : d ∈ el) : ∀ n ∈ d.weights P e, n ∈ (DataW.slice el sp).weights P t := by
  intro n hn
  simp only [DataW.weights, hu, List.mem_cons, List.mem_append]
  exact .inr (.inl (w_all hd n hn))
theorem w_len {t e : TypeId} (hu : P.underlying t = some (.slice e)) {el sp : List (DataW H)} : (el.length + sp.length) * P.bytesOf e ∈ (DataW.slice el sp).weights P t := by
  simp only [DataW.weights, hu, List.mem_cons]
  exact .inl trivial
theorem w_field {t : TypeId} {fs : Array Field} (hu : P.underlying t = some (.struct fs)) {parts : List (DataW H)} {j : Nat} {e : TypeId} {d : DataW H} (hf : (fs.toList.map (·.type))[j]? = some e) (hd : parts[j]? = some d) : ∀ n ∈ d.weights P e, n ∈ (DataW.agg parts).weights P t := by
  intro n hn
  simp only [DataW.weights, hu]
  exact DataW.weights_mem_each hf hd n hn
theorem w_string {t : TypeId} {bytes : List UInt8} : bytes.length ∈ (DataW.lit (.string bytes) : DataW H).weights P t := by simp [DataW.weights]
end

theorem spot_none {W : World} {x : Addr} {v : Value} (h : W.cell? x = some v) : x.spot = none := by
  cases hs : x.spot with
  | none => rfl
  | some n =>
    unfold World.cell? at h
    split at h
    · rw [hs] at h; simp at h
    · cases h

theorem reach_is : reachBytes = 140737488351232 := by decide

/-- A slice of strings inside of what came in. -/
theorem strs_in {H : Type} {enc : TypeId × Value → H} {P : Program} {W : World} {base : Nat} {spare : Nat → Bool} {held : Bool} {t e : TypeId} {v : Value} {d : DataW H} {ps : List MemPlace} {fuel : Nat}
    (hu : P.underlying t = some (.slice e)) (he : P.underlying e = some .string) (hc : P.cellsOf e = 1) (hB : P.bytesOf e = 16) (hw : ∀ n ∈ d.weights P t, n ≤ reachBytes)
    (h : DataW.trod enc P W base spare held fuel t [v] = some (d, ps)) : ∃ ad n c ss, v = .slice ad n c ∧ RdsS W v ss ∧ (∀ s ∈ ss, s.size ≤ 140737488351232) ∧ ss.length * 16 ≤ 140737488351232 := by
  rw [reach_is] at hw
  rcases open_strings hu he hc h with ⟨hcs, _⟩ | ⟨x, l, c, ss, hcs, _, hl, hm, hz, hx, hcell, hws⟩
  · simp at hcs
    subst hcs
    exact ⟨none, 0, 0, [], rfl, rdsS_nil W, by simp, by simp⟩
  · simp at hcs
    subst hcs
    obtain ⟨hx, _⟩ := Prod.mk.inj hx
    subst hx
    have z := hw _ (w_len hu)
    rw [hB] at z
    have hl2 : l ≤ ss.length := by
      rw [hz]
      split
      · exact hl
      · exact Nat.le_refl _
    have h1 : (strs (H := H) (ss.take l)).length + (strs (H := H) (ss.drop l)).length = ss.length := by
      simp [strs]
      omega
    rw [h1] at z
    have htl : (ss.take l).length = l := by simp; omega
    refine ⟨some x, l, c, ss.take l, rfl, ?_, fun s hs => ?_, by rw [htl]; omega⟩
    · rcases Nat.eq_zero_or_pos l with h0 | h0
      · subst h0
        simp only [List.take_zero]
        exact rdsS_empty W x c
      · have hc0 := hcell 0 (by omega)
        have hx0 : x.add 0 = x := by unfold Addr.add; rw [if_pos rfl]
        rw [hx0] at hc0
        have hsp := spot_none hc0
        obtain ⟨b, off, sp⟩ := x
        simp only at hsp
        subst hsp
        have hlt := World.block_lt_of_cell? W _ hc0
        have hadd : ∀ i, (⟨b, off, none⟩ : Addr).add i = ⟨b, off + i, none⟩ := fun i => by unfold Addr.add; split <;> simp_all
        have := rdsS_mk (w := W) (ss := ss.take l) (b := b) (off := off) (cap := c) (by omega) hm hlt (fun i hi => by
          have hi' : i < l := by omega
          have := hcell i (by omega)
          rw [hadd] at this
          rw [this, List.getD_eq_getElem?_getD, List.getElem?_eq_getElem (show i < ss.length by omega)]
          simp)
        rw [htl] at this
        exact this
    · have hm2 : (DataW.lit (.string s.data.toList) : DataW H) ∈ strs (H := H) (ss.take l) := by
        unfold strs
        exact List.mem_map.2 ⟨s, hs, rfl⟩
      have := hw _ (w_elem hu hm2 _ w_string)
      simpa using this

theorem list4 : ∀ {l : List Value}, l.length = 4 → ∃ a b c d, l = [a, b, c, d]
  | [a, b, c, d], _ => ⟨a, b, c, d, rfl⟩
theorem list5 : ∀ {l : List Value}, l.length = 5 → ∃ a b c d e, l = [a, b, c, d, e]
  | [a, b, c, d, e], _ => ⟨a, b, c, d, e, rfl⟩

/-- A rule inside of what came in. -/
theorem rule_in {H : Type} {enc : TypeId × Value → H} {W : World} {base : Nat} {spare : Nat → Bool} {held : Bool} {cs : List Value} {d : DataW H} {ps : List MemPlace} {fuel : Nat} (hw : ∀ n ∈ d.weights Try.prog 51, n ≤ reachBytes)
    (h : DataW.trod enc Try.prog W base spare held fuel 51 cs = some (d, ps)) : ∃ (x : RC) (r : Rl), cs = encR x ∧ RdC (fun _ => True) W x r := by
  have he := Try.underlying51
  obtain ⟨y0, y1, y2, n, hx, hl, h0, h1, h2⟩ := trod_struct3 he h
  have hC : Try.prog.cellsOf 51 = 4 := by kernel_rfl
  have hl4 : cs.length = 4 := hl.trans hC
  clear hl
  obtain ⟨c0, c1, c2, c3, rfl⟩ := list4 hl4
  · clear hl4
    have k0 : Try.prog.cellsOf 3 = 1 := by kernel_rfl
    have k1 : Try.prog.cellsOf 9 = 1 := by kernel_rfl
    have k2 : Try.prog.cellsOf 49 = 2 := by kernel_rfl
    simp only [k0, k1, k2, List.drop_zero, List.take_succ_cons, List.take_zero, List.drop_succ_cons] at h0 h1 h2
    obtain ⟨hd, _⟩ := Prod.mk.inj hx
    subst hd
    have ha := Try.underlying49
    obtain ⟨z0, z1, n2, hx2, _, g0, g1⟩ := trod_struct2 ha h2
    have k3 : Try.prog.cellsOf 46 = 1 := by kernel_rfl
    have k4 : Try.prog.cellsOf 47 = 1 := by kernel_rfl
    simp only [k3, k4, List.drop_zero, List.take_succ_cons, List.take_zero, List.drop_succ_cons] at g0 g1
    obtain ⟨p, e0, _⟩ := DataW.trod_int Try.underlying3 h0
    obtain ⟨m, e1, q1⟩ := DataW.trod_string Try.underlying9 h1
    obtain ⟨k, e2, _⟩ := DataW.trod_int Try.underlying46 g0
    have w1 : ∀ n ∈ y1.1.weights Try.prog 9, n ≤ reachBytes := fun n hn => hw n (w_field he (j := 1) rfl rfl n hn)
    have w2 : ∀ n ∈ y2.1.weights Try.prog 49, n ≤ reachBytes := fun n hn => hw n (w_field he (j := 2) rfl rfl n hn)
    rw [hx2] at w2
    have w3 : ∀ n ∈ z1.1.weights Try.prog 47, n ≤ reachBytes := fun n hn => w2 n (w_field ha (j := 1) rfl rfl n hn)
    obtain ⟨ad, l, c, ss, e3, hr, hs, hn⟩ := strs_in Try.underlying47 Try.underlying9 (by kernel_rfl) (by kernel_rfl) w3 g1
    simp only [List.cons.injEq, and_true] at e0 e1 e2
    subst e0 e1 e2 e3
    rw [q1.1] at w1
    have hm := w1 _ w_string
    rw [Array.length_toList, reach_is] at hm
    exact ⟨⟨p, m, k, ad, l, c⟩, ⟨p, m, k, ss⟩, rfl, ⟨rfl, rfl, rfl, ⟨hr, fun _ _ _ _ _ => trivial⟩, ⟨hm, hn, hs⟩⟩⟩

theorem encR_inj {x y : RC} (h : encR x = encR y) : x = y := by
  cases x; cases y
  simp only [encR, List.cons.injEq, Value.int.injEq, Value.string.injEq, Value.slice.injEq, true_and, and_true] at h
  obtain ⟨h1, h2, h3, h4, h5, h6⟩ := h
  subst h1 h2 h3 h4 h5 h6
  rfl

theorem rules_of {H : Type} {enc : TypeId × Value → H} {W : World} {base : Nat} {spare : Nat → Bool} {held : Bool} {t : TypeId} {a : Option Addr} {len cap : Nat} {d : DataW H} {ps : List MemPlace} (ht : Try.prog.underlying t = some (.slice 51)) (hw : ∀ n ∈ d.weights Try.prog t, n ≤ reachBytes)
    (h : DataW.Trod enc Try.prog W base spare held t (.slice a len cap) d ps) : ∃ L : List Rl, RdsR (fun _ => True) W (.slice a len cap) L ∧ L.length * 56 ≤ 140737488351232 := by
  obtain ⟨fuel, hf⟩ := h
  rcases open_slice ht hf with ⟨hcs, _⟩ | ⟨x, l, c, m, n, D, Pl, hcs, _, hl, hm, hmm, hx, hel⟩
  · simp [Value.cells] at hcs
    obtain ⟨rfl, rfl, rfl⟩ := hcs
    exact ⟨[], rdsR_nil _ W, by simp⟩
  · simp [Value.cells] at hcs
    obtain ⟨rfl, rfl, rfl⟩ := hcs
    obtain ⟨hx, _⟩ := Prod.mk.inj hx
    subst hx
    have hlm : len ≤ m := by rw [hmm]; split <;> omega
    have z := hw _ (w_len ht)
    rw [show Try.prog.bytesOf 51 = 56 by kernel_rfl, reach_is] at z
    simp only [List.length_map, List.length_range] at z
    have hC : Try.prog.cellsOf 51 = 4 := by kernel_rfl
    rw [hC] at hel
    have each : ∀ i, i < len → ∃ q : RC × Rl, RdC (fun _ => True) W q.1 q.2 ∧ W.cell? (x.add (i * 4)) = some (.int .i64 q.1.p) ∧ W.cell? (x.add (i * 4 + 1)) = some (.string q.1.m) ∧ W.cell? (x.add (i * 4 + 2)) = some (.int .i64 q.1.k) ∧ W.cell? (x.add (i * 4 + 3)) = some (.slice q.1.a q.1.n q.1.c) := by
      intro i hi
      obtain ⟨cs', h1, h2⟩ := hel i (by omega)
      obtain ⟨y, r, rfl, hr⟩ := rule_in (fun n hn => hw n (w_elem ht (List.mem_map.2 ⟨i, List.mem_range.2 hi, rfl⟩) n hn)) h2
      obtain ⟨_, _, hcell⟩ := World.cells?_some h1
      have g0 := hcell 0 (by decide)
      have g1 := hcell 1 (by decide)
      have g2 := hcell 2 (by decide)
      have g3 := hcell 3 (by decide)
      rw [add_add] at g0 g1 g2 g3
      exact ⟨(y, r), hr, by simpa [encR] using g0, by simpa [encR] using g1, by simpa [encR] using g2, by simpa [encR] using g3⟩
    obtain ⟨q, hq⟩ := choose_lt each
    refine ⟨(List.range len).map fun i => (q i).2, ⟨(List.range len).map fun i => (q i).1, some x, len, cap, rfl, by simp, by simp, ⟨by omega, fun h => by cases h⟩, by omega, fun _ _ _ _ _ => trivial, fun i hi => ?_, fun i hi hi' => ?_⟩, ?_⟩
    · have hi' : i < len := by simpa using hi
      obtain ⟨_, c0, c1, c2, c3⟩ := hq i hi'
      have hc0 := (hq 0 (by omega)).2.1
      have hx0 : x.add (0 * 4) = x := by rw [Nat.zero_mul]; unfold Addr.add; rw [if_pos rfl]
      rw [hx0] at hc0
      have hsp := spot_none hc0
      obtain ⟨b, off, sp⟩ := x
      simp only at hsp
      subst hsp
      have hadd : ∀ i, (⟨b, off, none⟩ : Addr).add i = ⟨b, off + i, none⟩ := fun i => by unfold Addr.add; split <;> simp_all
      have hlt := World.block_lt_of_cell? W _ hc0
      rw [hadd] at c0 c1 c2 c3
      exact ⟨b, off, rfl, hlt, by simpa using c0, by simpa [Nat.add_assoc] using c1, by simpa [Nat.add_assoc] using c2, by simpa [Nat.add_assoc] using c3⟩
    · have hi' : i < len := by simpa using hi
      simpa using (hq i hi').1
    · rw [List.length_map, List.length_range]
      omega
end Go.Proofs.Ytlbelkjgaeaaeaa
/-
  A slice of changes that came in reads as changes, and is no longer than its weight allows.
-/
namespace Go.Proofs.Ytlbelkjgaeaaeaa
open Go.ChangeShapes Go.WideShapes Go.RowKit Go.Deep

theorem changes_of {H : Type} {enc : TypeId × Value → H} {W : World} {base : Nat} {spare : Nat → Bool} {held : Bool} {t : TypeId} {a : Option Addr} {len cap : Nat} {d : DataW H} {ps : List MemPlace} (ht : Try.prog.underlying t = some (.slice 53)) (hw : ∀ n ∈ d.weights Try.prog t, n ≤ reachBytes)
    (h : DataW.Trod enc Try.prog W base spare held t (.slice a len cap) d ps) : ∃ L : List (Int × Rl), RdsC (fun _ => True) W (.slice a len cap) L ∧ L.length * 64 ≤ 140737488351232 := by
  obtain ⟨fuel, hf⟩ := h
  rcases open_slice ht hf with ⟨hcs, _⟩ | ⟨x, l, c, m, n, D, Pl, hcs, _, hl, hm, hmm, hx, hel⟩
  · simp [Value.cells] at hcs
    obtain ⟨rfl, rfl, rfl⟩ := hcs
    exact ⟨[], rdsC_nil _ W, by simp⟩
  · simp [Value.cells] at hcs
    obtain ⟨rfl, rfl, rfl⟩ := hcs
    obtain ⟨hx, _⟩ := Prod.mk.inj hx
    subst hx
    have hlm : len ≤ m := by rw [hmm]; split <;> omega
    have z := hw _ (w_len ht)
    rw [show Try.prog.bytesOf 53 = 64 by kernel_rfl, reach_is] at z
    simp only [List.length_map, List.length_range] at z
    have hC : Try.prog.cellsOf 53 = 5 := by kernel_rfl
    rw [hC] at hel
    have each : ∀ i, i < len → ∃ q : Int × RC × Rl, RdC (fun _ => True) W q.2.1 q.2.2 ∧ W.cell? (x.add (i * 5)) = some (.int .i64 q.1) ∧ W.cell? (x.add (i * 5 + 1)) = some (.int .i64 q.2.1.p) ∧ W.cell? (x.add (i * 5 + 2)) = some (.string q.2.1.m) ∧ W.cell? (x.add (i * 5 + 3)) = some (.int .i64 q.2.1.k) ∧ W.cell? (x.add (i * 5 + 4)) = some (.slice q.2.1.a q.2.1.n q.2.1.c) := by
      intro i hi
      obtain ⟨cs', h1, h2⟩ := hel i (by omega)
      have he := Try.underlying53
      have hwi : ∀ n ∈ (D i).weights Try.prog 53, n ≤ reachBytes := fun n hn => hw n (w_elem ht (List.mem_map.2 ⟨i, List.mem_range.2 hi, rfl⟩) n hn)
      obtain ⟨y0, y1, n2, hx, hlc, h3, h4⟩ := trod_struct2 he h2
      obtain ⟨_, _, hcell⟩ := World.cells?_some h1
      have hl5 : cs'.length = 5 := hlc.trans hC
      clear hlc
      obtain ⟨c0, c1, c2, c3, c4, rfl⟩ := list5 hl5
      · clear hl5
        have k0 : Try.prog.cellsOf 45 = 1 := by kernel_rfl
        have k1 : Try.prog.cellsOf 51 = 4 := by kernel_rfl
        simp only [k0, k1, List.drop_zero, List.take_succ_cons, List.take_zero, List.drop_succ_cons] at h3 h4
        obtain ⟨k, e0, _⟩ := DataW.trod_int Try.underlying45 h3
        have hd := (Prod.mk.inj hx).1
        rw [hd] at hwi
        obtain ⟨y, r, e1, hr⟩ := rule_in (fun n hn => hwi n (w_field he (j := 1) rfl rfl n hn)) h4
        simp only [encR, List.cons.injEq, and_true] at e0 e1
        obtain ⟨rfl, rfl, rfl, rfl⟩ := e1
        subst e0
        have g0 := hcell 0 (by decide)
        have g1 := hcell 1 (by decide)
        have g2 := hcell 2 (by decide)
        have g3 := hcell 3 (by decide)
        have g4 := hcell 4 (by decide)
        rw [add_add] at g0 g1 g2 g3 g4
        exact ⟨(k, y, r), hr, by simpa using g0, by simpa using g1, by simpa using g2, by simpa using g3, by simpa using g4⟩
    obtain ⟨q, hq⟩ := choose_lt each
    refine ⟨(List.range len).map fun i => ((q i).1, (q i).2.2), ⟨(List.range len).map fun i => ((q i).1, (q i).2.1), some x, len, cap, rfl, by simp, by simp, ⟨by omega, fun h => by cases h⟩, by omega, fun _ _ _ _ _ => trivial, fun i hi => ?_, fun i hi hi' => ?_⟩, ?_⟩
    · have hi' : i < len := by simpa using hi
      obtain ⟨_, c0, c1, c2, c3, c4⟩ := hq i hi'
      have hc0 := (hq 0 (by omega)).2.1
      have hx0 : x.add (0 * 5) = x := by rw [Nat.zero_mul]; unfold Addr.add; rw [if_pos rfl]
      rw [hx0] at hc0
      have hsp := spot_none hc0
      obtain ⟨b, off, sp⟩ := x
      simp only at hsp
      subst hsp
      have hadd : ∀ i, (⟨b, off, none⟩ : Addr).add i = ⟨b, off + i, none⟩ := fun i => by unfold Addr.add; split <;> simp_all
      have hlt := World.block_lt_of_cell? W _ hc0
      rw [hadd] at c0 c1 c2 c3 c4
      exact ⟨b, off, rfl, hlt, by simpa using c0, by simpa [Nat.add_assoc] using c1, by simpa [Nat.add_assoc] using c2, by simpa [Nat.add_assoc] using c3, by simpa [Nat.add_assoc] using c4⟩
    · have hi' : i < len := by simpa using hi
      exact ⟨by simp, by simpa using (hq i hi').1⟩
    · rw [List.length_map, List.length_range]
      omega
end Go.Proofs.Ytlbelkjgaeaaeaa
