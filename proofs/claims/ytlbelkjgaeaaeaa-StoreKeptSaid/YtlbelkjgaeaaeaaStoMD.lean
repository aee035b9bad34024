/-
  Walks over package store: copied, At.
-/
import Derived.Test.YtlbelkjgaeaaeaaStoMC
import Derived.StillTailTactics
import Derived.SizedLaws
import Derived.SliceStrings
import Derived.ProofKit
import Derived.Deep.Slices
import Derived.Deep.Strs
import Derived.Test.YtlbelkjgaeaaeaaRul
import Derived.Test.YtlbelkjgaeaaeaaStoMA
import Derived.Lib.SmallJoins
namespace Go.Proofs.Ytlbelkjgaeaaeaa
open Go.RowKit Go.Shelf Go.Lib Go.Sort
set_option linter.unusedVariables false
set_option linter.unusedSectionVars false
set_option linter.unusedSimpArgs false

set_option maxHeartbeats 1600000 in
set_option maxRecDepth 20000 in
theorem scopied_any (ok : Nat → Prop) (v : Value) (L : List Rl) (w : World) (hr : RdsR ok w v L) (hn : L.length * 56 ≤ 140737488355328) :
    Calls Try.prog 25 #[v] w fun e w' => ∃ ad c, e = .returned (.slice ad L.length c) ∧ RdsR (fun b => w.heap.size ≤ b) w' (.slice ad L.length c) L ∧ Below w.heap.size w w' := by
  have HR := Lib.hid hr
  have HCl := Lib.hid (fun W h => cloneR_any ok v L W h hn)
  obtain ⟨n, hnl⟩ : ∃ n, n = L.length := ⟨_, rfl⟩
  have HN : Hid (n = L.length) := hnl
  have hnb : n * 56 ≤ 140737488355328 := by rw [hnl]; exact hn
  rw [← hnl] at HCl ⊢
  obtain ⟨ad0, cap0, rfl, _, _⟩ := hr.form
  clear hr hn hnl
  go_enter Try.func25, Try.ntmps25
  go_wp2_with fail
  refine (HCl.out w HR.out).mono ?_
  rintro e w1 ⟨ad, c, xs, rfl, hown, hb1⟩
  have HO1 := Lib.hid hown
  have HB1 := Lib.hid hb1
  clear hown hb1
  go_wp2_with fail
  have hgl := HO1.out.row.lt
  have HGL := Lib.hid hgl
  clear hgl
  go_loopw [4, 9] (fun s4 s9 wr => ∃ x4 : Value, ∃ i : Nat, ∃ ys : List RC, s4 = x4 ∧ s9 = .int .i64 i ∧ i ≤ n ∧ Hid (wr.ownsRow w.heap.size 51 4 (.slice ad n c) n (cellsR ys)) ∧ Hid (ys.length = n) ∧
    Hid (∀ j (h : j < ys.length) (h' : j < L.length), RdC (fun b => (j < i ∧ w1.heap.size ≤ b) ∨ (i ≤ j ∧ ok b ∧ b < w.heap.size)) wr ys[j] L[j]) ∧ Hid (Below w.heap.size w wr) ∧ Hid (w1.heap.size ≤ wr.heap.size)) (fun _ s9 _ => n - (intOf s9).toNat)
  case atStart => exact ⟨_, 0, xs, rfl, rfl, Nat.zero_le _, (by have := HO1.out.row; rw [← HN.out] at this; exact this : w1.ownsRow w.heap.size 51 4 (.slice ad n c) n (cellsR xs)), HO1.out.len.trans HN.out.symm, (fun j h h' => (HO1.out.rd j h h').mono (fun b hb => .inr ⟨Nat.zero_le _, hb⟩) : ∀ j (h : j < xs.length) (h' : j < L.length), RdC (fun b => (j < 0 ∧ w1.heap.size ≤ b) ∨ (0 ≤ j ∧ ok b ∧ b < w.heap.size)) w1 xs[j] L[j]), HB1, Nat.le_refl _⟩
  case round =>
    obtain ⟨wo, rfl⟩ : ∃ wo : World, wo = wr := ⟨wr, rfl⟩
    obtain ⟨x4, i, ys, rfl, rfl, hin, HOw, HYl, HRd, HBw, HSz⟩ := hrel
    by_cases hlt : i < n
    · obtain ⟨g, cp, hgv, _, _⟩ := HOw.out.form (by omega)
      injection hgv with e1 e2 e3
      subst e1 e3
      have hiy : i < ys.length := by rw [HYl.out]; exact hlt
      have hiL : i < L.length := by rw [← HN.out]; exact hlt
      have hcc : wo.cell? ⟨g, i * 4 + 2 + 1, none⟩ = some (.slice ys[i].a ys[i].n ys[i].c) := by
        rw [HOw.out.cellAt (i * 4 + 2 + 1) (by omega)]; exact (cellsR_get ys i hiy).2.2.2
      have hrd := HRd.out i hiy hiL
      have HSs := Lib.hid hrd.s.1
      have hpn := hrd.z.n
      have HCS := Lib.hid (fun W (hq : RdsS W (.slice ys[i].a ys[i].n ys[i].c) L[i].ps) => cloneS_any _ _ W hq hpn)
      have HYI := Lib.hid (show ys[i] = ys[i] from rfl)
      clear hrd hpn e2
      go_wp2_with fail
      refine (HCS.out wo HSs.out).mono ?_
      rintro e w2 ⟨ad2, c2, rfl, hrd2, hb2⟩
      have hiL : i < L.length := by rw [← HN.out]; exact hlt
      have how2 := ownsRow_below HOw.out hb2
      have hcc2 : w2.cell? ⟨g, i * 4 + 2 + 1, none⟩ = some (.slice ys[i].a ys[i].n ys[i].c) := by
        rw [how2.cellAt (i * 4 + 2 + 1) (by omega)]; exact (cellsR_get ys i hiy).2.2.2
      have hfz2 : w2.frozen? ⟨g, i * 4 + 2 + 1, none⟩ = false := how2.frozenAt _
      have hst := how2.stored (i * 4 + 3) (.slice ad2 L[i].ps.length c2)
      have hgw := HGL.out g rfl
      have HNew : Hid ((w2.setCell ⟨g, i * 4 + 2 + 1, none⟩ (.slice ad2 L[i].ps.length c2)).ownsRow w.heap.size 51 4 (.slice (some ⟨g, 0, none⟩) n c) n (cellsR (ys.set i { ys[i] with a := ad2, n := L[i].ps.length, c := c2 }))) := by
        have := hst.1
        rw [cellsR_set hiy] at this
        exact this
      have hbut : But (fun b => b = g) w2 (w2.setCell ⟨g, i * 4 + 2 + 1, none⟩ (.slice ad2 L[i].ps.length c2)) := But.set (S := fun b => b = g) (a := ⟨g, i * 4 + 2 + 1, none⟩) rfl _
      have HRd2 : Hid (∀ j (h : j < (ys.set i { ys[i] with a := ad2, n := L[i].ps.length, c := c2 }).length) (h' : j < L.length), RdC (fun b => (j < i + 1 ∧ w1.heap.size ≤ b) ∨ (i + 1 ≤ j ∧ ok b ∧ b < w.heap.size)) (w2.setCell ⟨g, i * 4 + 2 + 1, none⟩ (.slice ad2 L[i].ps.length c2)) (ys.set i { ys[i] with a := ad2, n := L[i].ps.length, c := c2 })[j] L[j]) := by
        intro j h h'
        have h0 : j < ys.length := by simpa using h
        by_cases hji : j = i
        · subst hji
          rw [List.getElem_set_self]
          have hrd := HRd.out j h0 h'
          refine ⟨hrd.p, hrd.m, hrd.k, ?_, hrd.z⟩
          refine (hrd2.but hbut (fun b hb e => ?_)).mono (fun b hb => .inl ⟨by omega, by have := HSz.out; omega⟩)
          have := HSz.out
          omega
        · rw [List.getElem_set_ne (fun e => hji e.symm)]
          have hrd := (HRd.out j h0 h').below hb2
          refine (hrd.but hbut (fun b hb e => ?_)).mono (fun b hb => hb.imp (fun h => ⟨by omega, h.2⟩) (fun h => ⟨by omega, h.2⟩))
          rcases hb with hb | hb <;> omega
      have HBw2 : Hid (Below w.heap.size w (w2.setCell ⟨g, i * 4 + 2 + 1, none⟩ (.slice ad2 L[i].ps.length c2))) := (HBw.out.trans (hb2.mono HBw.out.size)).setCell hgw.1 _
      have HSz2 : Hid (w1.heap.size ≤ (w2.setCell ⟨g, i * 4 + 2 + 1, none⟩ (.slice ad2 L[i].ps.length c2)).heap.size) := by
        have h1 := HSz.out
        have h2 := hb2.size
        have h3 := hbut.size
        show _ ≤ _
        omega
      have HYl2 : Hid ((ys.set i { ys[i] with a := ad2, n := L[i].ps.length, c := c2 }).length = n) := by show _ = _; rw [List.length_set]; exact HYl.out
      clear hrd2 hb2 how2 hst hbut hgw hcc
      go_wp2_with fail
      go_roundw
      case rel => exact ⟨_, i + 1, _, rfl, by first | rfl | go_num, by omega, HNew, HYl2, HRd2, HBw2, HSz2⟩
      case measure => simp [intOf]; omega
    · have hin' : i = n := by omega
      have HRd3 : Hid (∀ j (h : j < ys.length) (h' : j < L.length), RdC (fun b => w1.heap.size ≤ b) wo ys[j] L[j]) := fun j h h' => (HRd.out j h h').mono (fun b hb => by
        have := HN.out
        rcases hb with hb | hb
        · exact hb.2
        · omega)
      have hO : OwnR (fun b => w1.heap.size ≤ b) wo w.heap.size (.slice ad n c) ys L := ⟨by rw [← HN.out]; exact HOw.out, HYl.out.trans HN.out, HRd3.out⟩
      have HF : Hid (RdsR (fun b => w.heap.size ≤ b) wo (.slice ad n c) L) := hO.toRds'.mono (fun b hb => by have := HB1.out.size; rcases hb with hb | hb <;> omega)
      clear hO hin'
      go_wp2_with fail
      go_ret
      exact ⟨ad, c, rfl, HF.out, HBw.out⟩

set_option maxHeartbeats 1600000 in
set_option maxRecDepth 20000 in
/-- At, of a version that is not kept. -/
theorem at_bad {ok : Nat → Prop} {base : Nat} {w : World} {sb tb : Nat} {v vo : Value} {us : List Value} {L : List Rl} {W : Int} {ver boot : Nat} {olds : List (List Rl)} (h : Sto ok base w sb tb v vo us L W ver boot olds) (x : Nat) (hx : ver < x ∨ olds.length ≤ ver - x) (hv : ver ≤ 1000000) (ho : olds.length ≤ 4096) :
    Calls Try.prog 11 #[.pointer (some ⟨sb, 0, none⟩), .int .u64 x] w fun e w' => e = .returned (.tuple #[.slice none 0 0, .int .i64 211]) ∧ Below w.heap.size w w' := by
  have HM := Lib.hid (made_sto h)
  have c1 := h.c1
  have c3 := h.c3
  obtain ⟨va, vc, rfl, _⟩ := ownsRow_slice h.own
  have hul := h.len
  obtain ⟨n, hn⟩ : ∃ n, us.length = n := ⟨_, rfl⟩
  rw [hn] at c3 hul
  rw [← hul] at hx ho
  clear h hn hul
  by_cases h1 : ver < x
  · have hz : (ver : Int) < (x : Int) := by omega
    clear hx
    go_enter Try.func11, Try.ntmps11
    go_wp2_with fail
    refine HM.out.mono ?_
    rintro e w1 ⟨rfl, rfl⟩
    go_wp2_with fail
    go_quiet (fail)
    go_wp2_with fail
    go_ret2
    exact ⟨rfl, below_dN (Below.refl _ _) _⟩
  · have h2 : n ≤ ver - x := by omega
    have hz : decide ((ver : Int) < (x : Int)) = false := by simp; omega
    obtain ⟨d, hd⟩ : ∃ d : Nat, ver - x = d := ⟨_, rfl⟩
    have hd1 : (ver : Int) - (x : Int) = (d : Int) := by omega
    have hw1 : IntKind.u64.wrap ((ver : Int) - (x : Int)) = (d : Int) := by
      rw [hd1]
      unfold IntKind.wrap
      simp [IntKind.signed, IntKind.bits]
      omega
    have hw2 : IntKind.u64.wrap (n : Int) = (n : Int) := by
      unfold IntKind.wrap
      simp [IntKind.signed, IntKind.bits]
      omega
    have hz2 : (n : Int) ≤ (d : Int) := by omega
    rw [hd] at h2
    clear hx
    go_enter Try.func11, Try.ntmps11
    go_wp2_with fail
    refine HM.out.mono ?_
    rintro e w1 ⟨rfl, rfl⟩
    go_wp2_with fail
    go_quiet (fail)
    go_wp2_with fail
    go_ret2
    exact ⟨rfl, below_dN (Below.refl _ _) _⟩

set_option maxHeartbeats 3200000 in
set_option maxRecDepth 20000 in
/-- At, of a version that is kept. -/
theorem at_good {ok : Nat → Prop} {base : Nat} {w : World} {sb tb : Nat} {v vo : Value} {us : List Value} {L : List Rl} {W : Int} {ver boot : Nat} {olds : List (List Rl)} (h : Sto ok base w sb tb v vo us L W ver boot olds) (x : Nat) (hx : x ≤ ver) (hx2 : ver - x < olds.length) (hv : ver ≤ 1000000) (ho : olds.length ≤ 4096) (hf : ∀ l ∈ olds, l.length ≤ 4096) :
    Calls Try.prog 11 #[.pointer (some ⟨sb, 0, none⟩), .int .u64 x] w fun e w' => ∃ ad c, e = .returned (.tuple #[.slice ad (olds[olds.length - 1 - (ver - x)]'(by omega)).length c, .int .i64 0]) ∧ RdsR (fun b => w.heap.size ≤ b) w' (.slice ad (olds[olds.length - 1 - (ver - x)]'(by omega)).length c) (olds[olds.length - 1 - (ver - x)]'(by omega)) ∧ Below w.heap.size w w' := by
  have HM := Lib.hid (made_sto h)
  have c1 := h.c1
  have c3 := h.c3
  obtain ⟨k, hk⟩ : ∃ k, olds.length - 1 - (ver - x) = k := ⟨_, rfl⟩
  have hkl : k < olds.length := by omega
  have hku : k < us.length := by have := h.len; omega
  obtain ⟨R, hR⟩ : ∃ R, olds[k] = R := ⟨_, rfl⟩
  have hR2 : olds[olds.length - 1 - (ver - x)]'(by omega) = R := by rw [← hR]; congr 1
  rw [hR2]
  have hrd := h.rd k hku hkl
  rw [hR] at hrd
  have hRf : R.length ≤ 4096 := by rw [← hR]; exact hf _ (List.getElem_mem hkl)
  obtain ⟨adk, capk, huk, _, _⟩ := hrd.form
  rw [huk] at hrd
  obtain ⟨va, vc, hvo, _⟩ := ownsRow_slice h.own
  have hrow : ∃ g, va = some ⟨g, 0, none⟩ ∧ w.cell? ⟨g, k, none⟩ = some (.slice adk R.length capk) := by
    rcases h.own.2 with ⟨h1, h2⟩ | ⟨g, cap, cur, hv', hg, hh, hn, hc, hs, ht⟩
    · omega
    · rw [hvo] at hv'
      injection hv' with e1 _ _
      refine ⟨g, e1, ?_⟩
      have h3 : (cur.toList.take (us.length * 1))[k]? = us[k]? := by rw [ht]
      rw [List.getElem?_take_of_lt (by omega), List.getElem?_eq_getElem hku, huk] at h3
      simpa [World.cell?, hh] using h3
  obtain ⟨g, rfl, hcell⟩ := hrow
  subst hvo
  have hul := h.len
  obtain ⟨n, hn⟩ : ∃ n, us.length = n := ⟨_, rfl⟩
  rw [hn] at c3 hul
  rw [← hul] at hx2 ho hk
  have HCp := Lib.hid (fun W (hb : Below w.heap.size w W) => scopied_any ok (.slice adk R.length capk) R W (hrd.below hb) (by omega))
  clear h hn hul hrd hR hR2 huk hkl hku hf
  have hz : decide ((ver : Int) < (x : Int)) = false := by simp; omega
  obtain ⟨d, hd⟩ : ∃ d : Nat, ver - x = d := ⟨_, rfl⟩
  rw [hd] at hx2 hk
  have hd1 : (ver : Int) - (x : Int) = (d : Int) := by omega
  have hwd : IntKind.u64.wrap (d : Int) = (d : Int) := by
    unfold IntKind.wrap
    simp [IntKind.signed, IntKind.bits]
    omega
  have hw1 : IntKind.u64.wrap ((ver : Int) - (x : Int)) = (d : Int) := by rw [hd1]; exact hwd
  have hw2 : IntKind.u64.wrap (n : Int) = (n : Int) := by
    unfold IntKind.wrap
    simp [IntKind.signed, IntKind.bits]
    omega
  have hz2 : decide ((n : Int) ≤ (d : Int)) = false := by simp; omega
  have hw3 : IntKind.i64.wrap (d : Int) = (d : Int) := IntWalk.i64_in _ (by omega)
  have hw4 : IntKind.i64.wrap ((n : Int) - 1) = (n : Int) - 1 := IntWalk.i64_in _ (by omega)
  have hk1 : (n : Int) - 1 - (d : Int) = (k : Int) := by omega
  have hw5 : IntKind.i64.wrap ((n : Int) - 1 - (d : Int)) = (k : Int) := by rw [hk1]; exact IntWalk.i64_in _ (by omega)
  have hw6 : IntKind.i64.wrap (k : Int) = (k : Int) := IntWalk.i64_in _ (by omega)
  have hk2 : (0 : Int) ≤ (k : Int) := by omega
  have hk3 : (k : Int) < (n : Int) := by omega
  have hk4 : k < n := by omega
  have hnx : ¬ ver < x := by omega
  have hnd : ¬ n ≤ d := by omega
  clear hx hd hk
  go_enter Try.func11, Try.ntmps11
  go_wp2_with fail
  refine HM.out.mono ?_
  rintro e w1 ⟨rfl, rfl⟩
  go_wp2_with fail
  go_quiet (fail)
  go_upto_region 5 with fail
  have hB : Below w.heap.size w (w.drewN nq) := below_dN (Below.refl _ _) nq
  obtain ⟨wq, hwq⟩ : ∃ wq, wq = w.drewN nq := ⟨_, rfl⟩
  rw [← hwq] at hB ⊢
  have c1' := (hB.cell (p := ⟨sb, 1, none⟩) (cell_lt c1)).trans c1
  have c3' := (hB.cell (p := ⟨sb, 3, none⟩) (cell_lt c3)).trans c3
  have hcell' := (hB.cell (p := ⟨g, k, none⟩) (cell_lt hcell)).trans hcell
  have HC2 := Lib.hid (HCp.out wq.drew hB.drew)
  have HBd := Lib.hid hB.drew
  clear c1 c3 hcell hB hwq
  go_still_tail 20, (by kernel_rfl)
  change wpList _ _ _ _ _ wq.drew
  generalize wq.drew = wd at HC2 HBd ⊢
  go_wp2_with fail
  refine HC2.out.mono ?_
  rintro e w5 ⟨ad5, c5, rfl, hr5, hb5⟩
  have HR5 := Lib.hid hr5
  have HB5 := Lib.hid hb5
  clear hr5 hb5
  go_wp2_with fail
  go_ret2
  exact ⟨ad5, c5, rfl, HR5.out.mono (fun b hb => by have := HBd.out.size; omega), HBd.out.trans (HB5.out.mono HBd.out.size)⟩
end Go.Proofs.Ytlbelkjgaeaaeaa
/-
  The law StoreKept: what its loops keep.
-/
namespace Go.Proofs.Ytlbelkjgaeaaeaa
open Go.RowKit Go.Shelf Go.Lib Go.Sort
set_option linter.unusedVariables false
set_option linter.unusedSectionVars false
set_option linter.unusedSimpArgs false

theorem Sto.toP {ok : Nat → Prop} {base : Nat} {w : World} {sb tb : Nat} {v vo : Value} {us : List Value} {L : List Rl} {W : Int} {ver boot : Nat} {olds : List (List Rl)} (h : Sto ok base w sb tb v vo us L W ver boot olds) (P : Nat → Prop) (hP : ∀ b, ok b → b < w.heap.size → P b) (hs : ∀ b, P b → b ≠ sb) (ht : ∀ b, P b → b ≠ tb) (hv : ∀ b, vo.ownBlock = some b → ¬ P b) : Sto P base w sb tb v vo us L W ver boot olds :=
  ⟨h.c0, h.c1, h.c2, h.c3, h.f1, h.f2, h.f3, h.tab.toQ P hP ht, h.own, h.len, fun i a b => (h.rd i a b).lt.mono fun k hk => hP k hk.1 hk.2, hs, h.ne, fun b hb => ⟨hv b hb, (h.nv b hb).2⟩⟩

/-- Blocks in which what is told may lie. -/
def okK (n0 sb tb : Nat) (vo rv : Value) (b : Nat) : Prop := n0 ≤ b ∧ b ≠ sb ∧ b ≠ tb ∧ vo.ownBlock ≠ some b ∧ rv.ownBlock ≠ some b

/-- A store, and the rules of its versions, told one after another. -/
structure Kp (n0 : Nat) (wr : World) (sb tb : Nat) (v vo rv : Value) (us rs : List Value) (L : List Rl) (W : Int) (ver boot : Nat) (olds : List (List Rl)) : Prop where
  sto : Sto (okK n0 sb tb vo rv) n0 wr sb tb v vo us L W ver boot olds
  row : wr.ownsRow n0 28 1 rv rs.length rs
  rlen : rs.length = olds.length
  rrd : ∀ i (h : i < rs.length) (h' : i < olds.length), RdsR (okK n0 sb tb vo rv) wr rs[i] olds[i]
  rne : ∀ b, rv.ownBlock = some b → b ≠ sb ∧ b ≠ tb ∧ vo.ownBlock ≠ some b
  lv : olds.length = ver + 1
  few : ∀ l ∈ olds, l.length ≤ 4096
  okL : Fb.Ok W L
  sn : n0 ≤ sb
  tn : n0 ≤ tb

theorem Kp.below {n0 : Nat} {wr w' : World} {sb tb : Nat} {v vo rv : Value} {us rs : List Value} {L : List Rl} {W : Int} {ver boot : Nat} {olds : List (List Rl)} (h : Kp n0 wr sb tb v vo rv us rs L W ver boot olds) (hb : Below wr.heap.size wr w') : Kp n0 w' sb tb v vo rv us rs L W ver boot olds :=
  ⟨h.sto.below hb, ownsRow_below h.row hb, h.rlen, fun i a b => (h.rrd i a b).below hb, h.rne, h.lv, h.few, h.okL, h.sn, h.tn⟩

/-- Behind a refused install. -/
theorem Kp.bad {n0 : Nat} {wr w' : World} {sb tb : Nat} {v v' vo rv : Value} {us rs : List Value} {L : List Rl} {W : Int} {ver boot : Nat} {olds : List (List Rl)} (h : Kp n0 wr sb tb v vo rv us rs L W ver boot olds) (hs : Sto (okNew (okK n0 sb tb vo rv) wr) n0 w' sb tb v' vo us L W ver boot olds) (hb : But (fun b => b = tb) wr w') : Kp n0 w' sb tb v' vo rv us rs L W ver boot olds := by
  have hsl := h.sto.slt
  have htl := h.sto.tab.lt
  refine ⟨hs.toP _ ?_ (fun b hb => hb.2.1) (fun b hb => hb.2.2.1) (fun b hb h1 => h1.2.2.2.1 hb), ownsRow_butS h.row hb (fun b hb e => (h.rne b hb).2.1 e), h.rlen, fun i a b => (h.rrd i a b).but hb (fun b hb e => hb.2.2.1 e), h.rne, h.lv, h.few, h.okL, h.sn, h.tn⟩
  rintro b (⟨h1, _⟩ | h1) _
  · exact h1
  · refine ⟨by have := h.sn; omega, by omega, by omega, fun e => ?_, fun e => ?_⟩
    · have := (own_lt h.sto.own e).2; omega
    · have := (own_lt h.row e).2; omega

/-- Behind an install that made a version, its rules told. -/
theorem Kp.good {n0 : Nat} {wr w2 w3 w4 : World} {sb tb : Nat} {v v' vo vo' rv : Value} {us us' rs : List Value} {L E : List Rl} {W : Int} {ver boot : Nat} {olds : List (List Rl)} (h : Kp n0 wr sb tb v vo rv us rs L W ver boot olds)
    (hs : Sto (fun b => okNew (okK n0 sb tb vo rv) wr b ∧ vo'.ownBlock ≠ some b) n0 w2 sb tb v' vo' us' E W (ver + 1) boot (olds ++ [E])) (hvo : ∀ b, vo'.ownBlock = some b → vo.ownBlock = some b ∨ wr.heap.size ≤ b) (hb : But (fun b => b = sb ∨ b = tb ∨ vo.ownBlock = some b) wr w2) (hE : Fb.Ok W E)
    {u : Value} (hr : RdsR (fun b => w2.heap.size ≤ b) w3 u E) (hb3 : Below w2.heap.size w2 w3) {gg cap : Nat} {t : TypeId} (hg : (w3.alloc (.cells #[u] t)).grownBy w4 rv.ownBlock) (hgg : rv.ownBlock = some gg ∨ gg = w3.heap.size + 1) (ho : w4.ownsRow n0 28 1 (.slice (some ⟨gg, 0, none⟩) (rs.length + 1) cap) (rs.length + 1) (rs ++ [u])) :
    Kp n0 w4 sb tb v' vo' (.slice (some ⟨gg, 0, none⟩) (rs.length + 1) cap) us' (rs ++ [u]) E W (ver + 1) boot (olds ++ [E]) := by
  have hsl := h.sto.slt
  have htl := h.sto.tab.lt
  have hs2 := hb.size
  have hs3 := hb3.size
  have hrl : ∀ b, rv.ownBlock = some b → n0 ≤ b ∧ b < wr.heap.size := fun b e => own_lt h.row e
  have hvl : ∀ b, vo'.ownBlock = some b → b < w2.heap.size := fun b e => (own_lt hs.own e).2
  have hvr : ∀ b, vo'.ownBlock = some b → rv.ownBlock ≠ some b := fun b e e2 => by
    rcases hvo b e with h1 | h1
    · exact (h.rne b e2).2.2 h1
    · have := (hrl b e2).2; omega
  have hgrow : But (fun k => rv.ownBlock = some k) w3 w4 := ⟨hg.os, hg.tape, hg.output, by have := hg.size; simp at this; omega, fun k hk hn => (hg.block k (by simp; omega) (fun e => hn e.symm)).trans (Below.heap_alloc _ _ _ hk)⟩
  have hggl : ∀ b, okK n0 sb tb vo rv b → b < w3.heap.size → gg ≠ b := fun b hb hl e => by
    rcases hgg with h1 | h1
    · exact hb.2.2.2.2 (e ▸ h1)
    · omega
  have hP : ∀ b, okNew (okK n0 sb tb vo rv) wr b ∧ vo'.ownBlock ≠ some b → b < w3.heap.size → okK n0 sb tb vo' (.slice (some ⟨gg, 0, none⟩) (rs.length + 1) cap) b := by
    rintro b ⟨h1 | h1, h2⟩ hl
    · exact ⟨h1.1.1, h1.1.2.1, h1.1.2.2.1, h2, fun e => hggl b h1.1 hl (by injection e)⟩
    · refine ⟨by have := h.sn; omega, by omega, by omega, h2, fun e => ?_⟩
      have e : gg = b := by injection e
      rcases hgg with h3 | h3
      · have := (hrl gg h3).2; omega
      · omega
  have hS3 := hs.below hb3
  have hS3' := hS3.toP (fun b => (okNew (okK n0 sb tb vo rv) wr b ∧ vo'.ownBlock ≠ some b) ∧ b < w3.heap.size) (fun b hb hl => ⟨hb, hl⟩) (fun b hb => hS3.ns b hb.1) (fun b hb => hS3.tab.no b hb.1) (fun b hb h1 => h1.1.2 hb)
  have hok2 : ∀ b, okNew (okK n0 sb tb vo rv) wr b → ¬ rv.ownBlock = some b := fun b hb e => by
    rcases hb with h1 | h1
    · exact h1.1.2.2.2.2 e
    · have := (hrl b e).2; omega
  have hS4 := hS3'.but hgrow (fun e => (h.rne sb e).1 rfl) (fun e => (h.rne tb e).2.1 rfl) (fun b hb e => hok2 b hb.1.1 e) (fun b hb e => hvr b hb e)
  have hS5 := hS4.toP (okK n0 sb tb vo' (.slice (some ⟨gg, 0, none⟩) (rs.length + 1) cap)) (fun b hb _ => hP b hb.1 hb.2) (fun b hb => hb.2.1) (fun b hb => hb.2.2.1) (fun b hb h1 => h1.2.2.2.1 hb)
  have hggn : gg ≠ sb ∧ gg ≠ tb ∧ vo'.ownBlock ≠ some gg := by
    rcases hgg with h1 | h1
    · exact ⟨(h.rne gg h1).1, (h.rne gg h1).2.1, fun e => hvr gg e h1⟩
    · exact ⟨by omega, by omega, fun e => by have := hvl gg e; omega⟩
  refine ⟨hS5, by rw [List.length_append, List.length_singleton]; exact ho, by simp [h.rlen], ?_, ?_, by simp [h.lv], ?_, hE, h.sn, h.tn⟩
  · intro i h1 h2
    by_cases hi : i < rs.length
    · have e1 : (rs ++ [u])[i] = rs[i] := List.getElem_append_left hi
      have e2 : (olds ++ [E])[i] = olds[i]'(by have := h.rlen; omega) := List.getElem_append_left _
      rw [e1, e2]
      have r0 := (h.rrd i hi (by have := h.rlen; omega)).lt
      have r1 := r0.but hb (fun b hb e => by
        rcases e with e | e | e
        · exact hb.1.2.1 e
        · exact hb.1.2.2.1 e
        · exact hb.1.2.2.2.1 e)
      have r2 := r1.below hb3
      have r3 := r2.but hgrow (fun b hb e => hb.1.2.2.2.2 e)
      exact r3.mono (fun b hb => hP b ⟨.inl hb, fun e => by
        rcases hvo b e with h4 | h4
        · exact hb.1.2.2.2.1 h4
        · have := hb.2; omega⟩ (by have := hb.2; omega))
    · have hi2 : i = rs.length := by simp at h1; omega
      subst hi2
      have e1 : (rs ++ [u])[rs.length] = u := by simp
      have e2 : (olds ++ [E])[rs.length] = E := by simp [h.rlen]
      rw [e1, e2]
      have r3 := hr.lt.but hgrow (fun b hb e => by have := (hrl b e).2; have h4 : w2.heap.size ≤ b := hb.1; omega)
      exact r3.mono (fun b hb => by
        have h4 : w2.heap.size ≤ b := hb.1
        exact hP b ⟨.inr (by omega), fun e => by have := hvl b e; omega⟩ hb.2)
  · intro b hb
    injection hb with hb
    have hb : gg = b := hb
    subst hb
    exact hggn
  · intro l hl
    rcases List.mem_append.1 hl with hl | hl
    · exact h.few l hl
    · rw [List.mem_singleton] at hl
      subst hl
      exact hE.few
end Go.Proofs.Ytlbelkjgaeaaeaa
/-
  The law StoreKept: its walk.
-/
namespace Go.Proofs.Ytlbelkjgaeaaeaa
open Go.RowKit Go.Shelf Go.Lib Go.Sort
set_option linter.unusedVariables false
set_option linter.unusedSectionVars false
set_option linter.unusedSimpArgs false

/-- An act of a script. -/
structure Opx where
  k : Int
  m : List (Int × Rl)
  back : Int
  hdr : ByteArray

/-- v reads as acts. -/
def RdsOps (w : World) (v : Value) (os : List Opx) : Prop :=
  ∃ ad n cap, v = .slice ad n cap ∧ n = os.length ∧ n ≤ maxLen ∧ ∀ i (h : i < os.length), ∃ b off cv, ad = some ⟨b, off, none⟩ ∧ b < w.heap.size ∧ w.cell? ⟨b, off + i * 4, none⟩ = some (.int .i64 os[i].k) ∧ w.cell? ⟨b, off + i * 4 + 1, none⟩ = some cv ∧
    w.cell? ⟨b, off + i * 4 + 2, none⟩ = some (.int .u64 os[i].back) ∧ w.cell? ⟨b, off + i * 4 + 3, none⟩ = some (.string os[i].hdr) ∧ RdsC (fun _ => True) w cv os[i].m ∧ os[i].m.length * 64 ≤ 140737488351232 ∧ os[i].hdr.size ≤ maxLen

set_option maxHeartbeats 800000 in
set_option maxRecDepth 20000 in
theorem install_none {ok ok2 : Nat → Prop} {base : Nat} {w : World} {sb tb : Nat} {v vo : Value} {us : List Value} {L : List Rl} {W : Int} {ver boot : Nat} {olds : List (List Rl)} (h : Sto ok base w sb tb v vo us L W ver boot olds) {cv : Value} (hc : RdsC ok2 w cv []) :
    Calls Try.prog 10 #[.pointer (some ⟨sb, 0, none⟩), cv] w fun e w' => e = .returned (.tuple #[.int .u64 0, .int .i64 0, .int .i64 1]) ∧ w = w' := by
  have HM := Lib.hid (made_sto h)
  obtain ⟨ad, cap, rfl, _, _⟩ := hc.form
  clear h hc
  go_enter Try.func10, Try.ntmps10
  go_wp2_with fail
  refine HM.out.mono ?_
  rintro e w1 ⟨rfl, rfl⟩
  go_wp2_with fail
  refine bodyPost_ret (v := .tuple #[.int .u64 0, .int .i64 0, .int .i64 1]) (by simp [results, go_sem]) rfl ?_
  exact ⟨rfl, rfl⟩

/-- At the beginning. -/
theorem Kp.start {n0 : Nat} {w1 w2 : World} {sb tb : Nat} {vo : Value} {us : List Value} {W : Int} (hs : Sto (fun _ => False) n0 w1 sb tb (.slice none 0 0) vo us [] W 0 1 [[]]) (hb : Below w1.heap.size w1 w2) {u : Value} (hr : RdsR (fun b => w1.heap.size ≤ b) w2 u []) (h1 : n0 ≤ sb) (h2 : n0 ≤ tb) (h3 : n0 ≤ w1.heap.size) :
    Kp n0 (w2.alloc (.cells #[u] 28)) sb tb (.slice none 0 0) vo (.slice (some ⟨w2.heap.size, 0, none⟩) 1 1) us [u] [] W 0 1 [[]] := by
  have hsz := hb.size
  have hsl := hs.slt
  have htl := hs.tab.lt
  have hba : Below w2.heap.size w2 (w2.alloc (.cells #[u] 28)) := (Below.refl _ _).alloc (Nat.le_refl _) _
  have hvl : ∀ b, vo.ownBlock = some b → b < w1.heap.size := fun b e => (own_lt hs.own e).2
  refine ⟨((hs.below hb).below hba).toP _ (fun b h => h.elim) (fun b hb => hb.2.1) (fun b hb => hb.2.2.1) (fun b hb h => h.2.2.2.1 hb), ?_, rfl, ?_, ?_, rfl, by simp, Fb.ok_nil W, h1, h2⟩
  · refine ⟨rfl, .inr ⟨w2.heap.size, 1, #[u], rfl, by omega, heap_alloc_new _ _, Nat.le_refl _, by unfold maxLen; omega, rfl, rfl⟩⟩
  · intro i hi hi'
    have : i = 0 := by simpa using hi
    subst this
    refine (hr.lt.below hba).mono fun b hb => ?_
    have h4 : w1.heap.size ≤ b := hb.1
    exact ⟨by omega, by omega, by omega, fun e => by have := hvl b e; omega, fun e => by
      have e : w2.heap.size = b := by injection e
      have := hb.2
      omega⟩
  · intro b hb
    injection hb with hb
    have hb : w2.heap.size = b := hb
    subst hb
    exact ⟨by omega, by omega, fun e => by have := hvl _ e; omega⟩
end Go.Proofs.Ytlbelkjgaeaaeaa
/-
  The law StoreKept: its walk.
-/
namespace Go.Proofs.Ytlbelkjgaeaaeaa
open Go.RowKit Go.Shelf Go.Lib Go.Sort
set_option linter.unusedVariables false
set_option linter.unusedSectionVars false
set_option linter.unusedSimpArgs false

theorem own_cell {w : World} {base : Nat} {e : TypeId} {va : Option Addr} {n vc : Nat} {xs : List Value} (h : w.ownsRow base e 1 (.slice va n vc) n xs) (k : Nat) (hk : k < xs.length) : ∃ g, va = some ⟨g, 0, none⟩ ∧ g < w.heap.size ∧ w.cell? ⟨g, k, none⟩ = some xs[k] := by
  have hl := h.1
  rcases h.2 with ⟨h1, h2⟩ | ⟨g, cap, cur, hv', hg, hh, hn, hc, hs, ht⟩
  · omega
  · injection hv' with e1 _ _
    refine ⟨g, e1, (Array.getElem?_eq_some_iff.1 hh).1, ?_⟩
    have h3 : (cur.toList.take (n * 1))[k]? = xs[k]? := by rw [ht]
    rw [List.getElem?_take_of_lt (by omega), List.getElem?_eq_getElem hk] at h3
    simpa [World.cell?, hh] using h3

theorem at_place {ok : Nat → Prop} {base : Nat} {w : World} {sb tb : Nat} {v vo : Value} {us : List Value} {L : List Rl} {W : Int} {ver boot : Nat} {olds : List (List Rl)} (h : Sto ok base w sb tb v vo us L W ver boot olds) (x : Nat) (hl : olds.length = ver + 1) (hx : x < olds.length) (hv : ver ≤ 4000) (hf : ∀ l ∈ olds, l.length ≤ 4096) :
    Calls Try.prog 11 #[.pointer (some ⟨sb, 0, none⟩), .int .u64 x] w fun e w' => ∃ ad c, e = .returned (.tuple #[.slice ad olds[x].length c, .int .i64 0]) ∧ RdsR (fun b => w.heap.size ≤ b) w' (.slice ad olds[x].length c) olds[x] ∧ Below w.heap.size w w' := by
  have h1 := at_good h x (by omega) (by omega) (by omega) (by omega) hf
  have e : olds[olds.length - 1 - (ver - x)]'(by omega) = olds[x] := by congr 1; omega
  rw [e] at h1
  exact h1

set_option maxHeartbeats 12800000 in
set_option maxRecDepth 20000 in
theorem StoreKept_walk (W : Int) (sv : Value) (os : List Opx) (w : World) (hsv : RdsOps w sv os) : Calls Try.prog 3 #[.int .i64 W, sv] w fun e w' => e = .returned (.bool true) ∧ Below w.heap.size w w' := by
  obtain ⟨oa, n, oc, rfl, hn, hnm, hcell⟩ := hsv
  have HC := Lib.hid hcell
  have HN := Lib.hid hn
  unfold maxLen at hnm
  clear hcell hn
  by_cases hW : 1 ≤ W ∧ W ≤ 128
  · have HNw := Lib.hid (snew_ok W w w.heap.size (Nat.le_refl _) hW.1 hW.2)
    go_enter Try.func3, Try.ntmps3
    go_wp2_with fail
    refine HNw.out.mono ?_
    rintro e w1 ⟨rfl, hS1, hb1, hs1⟩
    have HS1 := Lib.hid hS1
    have HB1 := Lib.hid hb1
    have Hs1 := Lib.hid hs1
    have HRu := Lib.hid (rules_sto hS1 (by simp))
    clear hS1 hb1 hs1
    go_wp2_with fail
    refine HRu.out.mono ?_
    rintro e w2 ⟨ad2, c2, rfl, hr2, hb2⟩
    have hK := Kp.start HS1.out hb2 hr2 (by omega) (Nat.le_refl _) HB1.out.size
    have hbK : Below w.heap.size w (w2.alloc (.cells #[.slice ad2 ([] : List Rl).length c2] 28)) := (HB1.out.trans (hb2.mono HB1.out.size)).alloc (by have := HB1.out.size; have := hb2.size; omega) _
    have HK := Lib.hid hK
    have HBK := Lib.hid hbK
    obtain ⟨N, hN⟩ : ∃ N, w.heap.size = N := ⟨_, rfl⟩
    have HN0 := Lib.hid hN
    clear hr2 hb2 hK hbK
    rw [hN] at HK
    go_wp2_with fail
    clear hN
    go_loopw [7, 8] (fun s7 s8 wr => ∃ (i m c : Nat) (ra : Option Addr) (v vo : Value) (us rs : List Value) (L : List Rl) (ver : Nat) (olds : List (List Rl)), s8 = .int .i64 i ∧ s7 = .slice ra m c ∧ i ≤ n ∧ i ≤ 60 ∧ m ≤ i + 1 ∧ Hid (m = rs.length) ∧ Hid (Kp N wr (N + 2) N v vo (.slice ra m c) us rs L W ver 1 olds) ∧ Hid (Below N w wr)) (fun _ s8 _ => n - (intOf s8).toNat)
    case atStart =>
      refine ⟨0, 1, 1, _, _, _, _, _, _, _, _, rfl, rfl, Nat.zero_le _, by omega, Nat.le_refl _, ?_, HK, ?_⟩
      · exact (rfl : (1 : Nat) = 1)
      · show Below _ _ _
        rw [← HN0.out]; exact HBK.out
    case round =>
      clear HK HBK
      obtain ⟨wo, rfl⟩ : ∃ wo : World, wo = wr := ⟨wr, rfl⟩
      obtain ⟨i, m, c, ra, v, vo, us, rs, L, ver, olds, rfl, rfl, hin, hi60, hmi, hmr, hK, hBw⟩ := hrel
      have hver : ver + 1 = m := by have h1 := hK.out.lv; have h2 := hK.out.rlen; have := hmr.out; omega
      have holds : olds.length = m := by have h1 := hK.out.lv; omega
      have HOl := Lib.hid holds
      clear holds
      by_cases hlt : i < n ∧ i < 60
      · obtain ⟨hlt, h60⟩ := hlt
        have hiz : (i : Int) < (n : Int) := by omega
        have hi6 : (i : Int) < 60 := by omega
        have hio : i < os.length := by rw [← HN.out]; exact hlt
        obtain ⟨b, off, cv, rfl, hbl, _, k1, _, _, hrc, hml, _⟩ := HC.out i hio
        obtain ⟨o, ho⟩ : ∃ o, os[i] = o := ⟨_, rfl⟩
        rw [ho] at hrc hml
        have hBw' : Below w.heap.size w wo := by rw [HN0.out]; exact hBw.out
        have k1' := (hBw'.cell (p := ⟨b, off + i * 4 + 1, none⟩) hbl).trans k1
        have hrc' := hrc.below hBw'
        have HV := Lib.hid (version_sto hK.out.sto)
        have HRc := Lib.hid hrc'
        obtain ⟨acv, ccv, hcv, _, _⟩ := hrc.form
        clear ho hrc hrc' hBw' k1
        go_wp2_with fail
        refine HV.out.mono ?_
        rintro e w3 ⟨rfl, rfl⟩
        by_cases hm0 : o.m = []
        · have HI := Lib.hid (install_none hK.out.sto (by have := HRc.out; rwa [hm0] at this))
          clear hm0
          subst hcv
          go_wp2_with fail
          refine HI.out.mono ?_
          rintro e w3 ⟨rfl, rfl⟩
          go_wp2_with fail
          refine HV.out.mono ?_
          rintro e w3 ⟨rfl, rfl⟩
          go_wp2_with fail
          go_roundw
          case rel => exact ⟨i + 1, m, c, ra, v, vo, us, rs, L, ver, olds, by go_num, rfl, by omega, by omega, by omega, hmr, hK, hBw⟩
          case measure => simp [intOf]; omega
        · by_cases hd : (Fb.doL W L o.m 0).2.2 = 0
          · have HI := Lib.hid (install_good hK.out.sto HRc.out hml hm0 hK.out.okL hd (by omega) (by have := HOl.out; omega) (by have := hBw.out.size; have := HN0.out; omega))
            have hE := hK.out.okL.end_ o.m
            have HE := Lib.hid hE
            obtain ⟨E, hEe⟩ : ∃ E, Fb.endL W L o.m = E := ⟨_, rfl⟩
            rw [hEe] at HE HI
            have hwr : IntKind.u64.wrap ((ver : Int) + 1) = (ver : Int) + 1 := by
              unfold IntKind.wrap
              simp [IntKind.signed, IntKind.bits]
              omega
            obtain ⟨i0, hi, hi0, hi1, hi2⟩ := info_parts infoRls
            clear hm0 hE hEe hd
            subst hcv
            go_wp2_with fail
            refine HI.out.mono ?_
            rintro e w3 ⟨rfl, ⟨v3, vo3, us3, hS3, hvo3⟩, hbt3⟩
            have hv3 := version_sto hS3
            rw [show ((ver + 1 : Nat) : Int) = (ver : Int) + 1 by omega] at hv3
            have HV3 := Lib.hid hv3
            have HR3 := Lib.hid (rules_sto hS3 HE.out.few)
            have HS3 := Lib.hid hS3
            have HVo3 := Lib.hid hvo3
            have HBt3 := Lib.hid hbt3
            have HO3 : Hid (w3.ownsRow N 28 1 (.slice ra m c) m rs) := by
              have h1 := ownsRow_butS hK.out.row hbt3 (fun b hb e => by
                have := hK.out.rne b hb
                rcases e with e | e | e
                · exact this.1 e
                · exact this.2.1 e
                · exact this.2.2 e)
              rwa [← hmr.out] at h1
            have HB3 : Hid (Below N w w3) := hBw.out.trans (hbt3.toBelow (by have := hBw.out.size; have := HN0.out; omega) (fun k hk => by
              rcases hk with e | e | e
              · omega
              · omega
              · exact (own_lt hK.out.sto.own e).1))
            clear hS3 hvo3 hbt3 hv3
            go_wp2_with fail
            refine HV3.out.mono ?_
            rintro e w4 ⟨rfl, rfl⟩
            go_wp2_with fail
            refine HR3.out.mono ?_
            rintro e w5 ⟨ad5, c5, rfl, hr5, hb5⟩
            have HR5 := Lib.hid hr5
            have HB5 := Lib.hid hb5
            have HOw : Hid ((w5.alloc (.cells #[.slice ad5 E.length c5] 28)).ownsRow N 28 1 (.slice ra m c) m rs) := (ownsRow_below HO3.out hb5).alloc _
            have hNs : N ≤ w5.heap.size := by have := HB3.out.size; have := hb5.size; have := HN0.out; omega
            clear hr5 hb5
            go_wp2_with (at_builtin; refine wpList_append_lies _ rfl (.tmp 71) (.tmp 74) 30 rfl N 28 i0 _ 1 24 Try.underlying30 hi hi0 hi1 hi2 rfl (by omega) (.slice ra m c) m rs (by rfl) HOw.out ⟨w5.heap.size, 0, none⟩ 1 1 [.slice ad5 E.length c5] (by rfl) (by rfl) (World.news_of_block (cs := #[.slice ad5 E.length c5]) (t := 28) (fr := (0, 0)) (heap_alloc_new w5 _)) (by simp [Value.oneCell']) (by omega) (by unfold maxLen; omega) (by omega) (by simp; omega) (w5.heap.size + 1) (by simp) ?_; intro gg cap6 w6 hown6 hgrow hat hlt6; have HO6 := Lib.hid hown6; have HG6 := Lib.hid hgrow; have HAt := Lib.hid hat; clear hown6 hgrow hat hlt6)
            have hK6 : Kp N w6 (N + 2) N v3 vo3 (.slice (some ⟨gg, 0, none⟩) (m + 1) cap6) us3 (rs ++ [.slice ad5 E.length c5]) E W (ver + 1) 1 (olds ++ [E]) := by
              have h1 := hK.out.good HS3.out HVo3.out HBt3.out HE.out HR5.out HB5.out HG6.out HAt.out (by rw [← hmr.out]; exact HO6.out)
              rwa [← hmr.out] at h1
            have hB6 : Below N w w6 := ((HB3.out.trans (HB5.out.mono (by have := HB3.out.size; have := HN0.out; omega))).alloc (by have := HB5.out.size; have := HB3.out.size; have := HN0.out; omega) (.cells #[.slice ad5 E.length c5] 28)).grown HG6.out (by simp; omega) (fun k hk => (own_lt HOw.out hk).1)
            have HK6 := Lib.hid hK6
            have HB6 := Lib.hid hB6
            clear hK6 hB6
            go_roundw
            case rel =>
              refine ⟨i + 1, m + 1, cap6, some ⟨gg, 0, none⟩, v3, vo3, us3, _, E, ver + 1, olds ++ [E], by go_num, rfl, by omega, by omega, by omega, ?_, HK6, HB6⟩
              show _ = _
              rw [List.length_append, ← hmr.out]; rfl
            case measure => simp [intOf]; omega
          · have HI := Lib.hid (install_bad hK.out.sto HRc.out hml hm0 hK.out.okL hd)
            have hq1 : ((Fb.doL W L o.m 0).2.2 == 0) = false := by simpa using hd
            have hq2 : ((Fb.doL W L o.m 0).2.2 != 0) = true := by simpa using hd
            clear hm0
            subst hcv
            go_wp2_with fail
            refine HI.out.mono ?_
            rintro e w3 ⟨rfl, ⟨v3, hS3⟩, hbt3⟩
            have hK3 := hK.out.bad hS3 hbt3
            have hB3 : Below N w w3 := hBw.out.trans (hbt3.toBelow (by have := hBw.out.size; have := HN0.out; omega) (fun k hk => by omega))
            have HK3 := Lib.hid hK3
            have HB3 := Lib.hid hB3
            have HV3 := Lib.hid (version_sto hS3)
            clear hS3 hbt3 hK3 hB3 hd
            go_wp2_with fail
            refine HV3.out.mono ?_
            rintro e w4 ⟨rfl, rfl⟩
            go_wp2_with fail
            go_roundw
            case rel => exact ⟨i + 1, m, c, ra, v3, vo, us, rs, L, ver, olds, by go_num, rfl, by omega, by omega, by omega, hmr, HK3, HB3⟩
            case measure => simp [intOf]; omega
      · have hcase : (i : Int) < (n : Int) ∧ decide ((i : Int) < 60) = false ∨ decide ((i : Int) < (n : Int)) = false ∧ ¬ i < n := by
          by_cases h : i < n
          · exact .inl ⟨by omega, by simp; omega⟩
          · exact .inr ⟨by simp; omega, h⟩
        have hrs : rs.length = m := hmr.out.symm
        clear hlt
        rcases hcase with ⟨h1, h2⟩ | ⟨h1, h2⟩
        all_goals
          go_wp2_with fail
          go_loopw [13] (fun s13 wr => ∃ q : Nat, q ≤ m ∧ s13 = .int .i64 q ∧ Hid (Below wo.heap.size wo wr)) (fun s13 _ => m - (intOf s13).toNat)
          case atStart => exact ⟨0, Nat.zero_le _, rfl, Below.refl _ _⟩
          case round =>
            obtain ⟨q, hq, rfl, hBq⟩ := hrel
            have hKq := Lib.hid (hK.out.below hBq.out)
            by_cases hqm : q < m
            · have hqz : (q : Int) < (m : Int) := by omega
              have hqo : q < olds.length := by have := HOl.out; omega
              have hqr : q < rs.length := by omega
              have hwq : IntKind.u64.wrap (q : Int) = (q : Int) := by
                unfold IntKind.wrap
                simp [IntKind.signed, IntKind.bits]
                omega
              have hAt := at_place hKq.out.sto q hKq.out.lv hqo (by omega) hKq.out.few
              have hrd := hKq.out.rrd q hqr hqo
              obtain ⟨R, hR⟩ : ∃ R, olds[q] = R := ⟨_, rfl⟩
              rw [hR] at hAt hrd
              obtain ⟨adq, capq, hrq, _, _⟩ := hrd.form
              rw [hrq] at hrd
              have hrow := hKq.out.row
              rw [hrs] at hrow
              obtain ⟨g, rfl, hgl, hgc⟩ := own_cell hrow q hqr
              rw [hrq] at hgc
              have HAt := Lib.hid hAt
              have HRd := Lib.hid hrd
              clear hAt hrd hR hrq hrow
              go_wp2_with fail
              refine HAt.out.mono ?_
              rintro e w7 ⟨ad7, c7, rfl, hr7, hb7⟩
              have hgc7 := (hb7.cell (p := ⟨g, q, none⟩) hgl).trans hgc
              have HSm := Lib.hid (sameRules_same _ _ _ _ _ w7 hr7 (HRd.out.below hb7))
              have HB7 := Lib.hid (hBq.out.trans (hb7.mono hBq.out.size))
              clear hr7 hb7
              go_wp2_with fail
              refine HSm.out.mono ?_
              rintro e w8 ⟨rfl, hg8⟩
              have HB8 := Lib.hid (HB7.out.trans (hg8.below.mono HB7.out.size))
              clear hg8
              go_wp2_with fail
              go_roundw
              case rel => exact ⟨q + 1, by omega, by go_num, HB8⟩
              case measure => simp [intOf]; omega
            · have hqz : decide ((q : Int) < (m : Int)) = false := by simp; omega
              have hwm : IntKind.u64.wrap (m : Int) = (m : Int) := by
                unfold IntKind.wrap
                simp [IntKind.signed, IntKind.bits]
                omega
              have HAt := Lib.hid (at_bad hKq.out.sto m (.inl (by omega)) (by omega) (by have := HOl.out; omega))
              go_wp2_with fail
              refine HAt.out.mono ?_
              rintro e w7 ⟨rfl, hb7⟩
              have HB7 := Lib.hid (hBq.out.trans (hb7.mono hBq.out.size))
              clear hb7
              go_wp2_with fail
              refine (alive_any _).mono ?_
              rintro e w8 ⟨rfl, hb8⟩
              have HB8 := Lib.hid (HB7.out.trans (hb8.mono HB7.out.size))
              have HBf : Hid (Below w.heap.size w w8) := by
                show Below _ _ _
                rw [HN0.out]
                exact hBw.out.trans (HB8.out.mono (by have := hBw.out.size; have := HN0.out; omega))
              clear hb8
              go_wp2_with fail
              go_ret
              exact ⟨rfl, HBf.out⟩
  · have HNw := Lib.hid (fun w => snew_bad W w (by omega))
    go_enter Try.func3, Try.ntmps3
    go_wp2_with fail
    refine (HNw.out _).mono ?_
    rintro e w1 ⟨rfl, rfl⟩
    go_wp2_with fail
    refine (alive_any _).mono ?_
    rintro e w2 ⟨rfl, hb2⟩
    have HB2 := Lib.hid hb2
    clear hb2
    go_wp2_with fail
    go_ret
    exact ⟨rfl, HB2.out⟩
end Go.Proofs.Ytlbelkjgaeaaeaa
/-
  Slices of rules that came in read as rules, and are no longer than their weights allow.
-/
namespace Go.Proofs.Ytlbelkjgaeaaeaa
open Go.ChangeShapes Go.WideShapes Go.RowKit Go.Deep

section
variable {H : Type} {P : Program}
theorem w_all {e : TypeId} : ∀ {l : List (DataW H)} {d : DataW H}, d ∈ l → ∀ n ∈ d.weights P e, n ∈ DataW.weightsAll P e l
  | x :: l, d, hd, n, hn => by
    rcases List.mem_cons.1 hd with rfl | hd
    · simp only [DataW.weightsAll, List.mem_append]; exact .inl hn
    · simp only [DataW.weightsAll, List.mem_append]; exact .inr (w_all hd n hn)
theorem w_elem {t e : TypeId} (hu : P.underlying t = some (.slice e)) {el sp : List (DataW H)} {d : DataW H} (hd : d ∈ el) : ∀ n ∈ d.weights P e, n ∈ (DataW.slice el sp).weights P t := by
  intro n hn
  simp only [DataW.weights, hu, List.mem_cons, List.mem_append]
  exact .inr (.inl (w_all hd n hn))
theorem w_len {t e : TypeId} (hu : P.underlying t = some (.slice e)) {el sp : List (DataW H)} : (el.length + sp.length) * P.bytesOf e ∈ (DataW.slice el sp).weights P t := by
  simp only [DataW.weights, hu, List.mem_cons]
  exact .inl trivial
theorem w_field {t : TypeId} {fs : Array Field} (hu : P.underlying t = some (.struct fs)) {parts : List (DataW H)} {j : Nat} {e : TypeId} {d : DataW H} (hf : (fs.toList.map (·.type))[j]? = some e) (hd : parts[j]? = some d) : ∀ n ∈ d.weights P e, n ∈ (DataW.agg parts).weights P t := by
  intro n hn
  simp only [DataW.weights, hu]
  exact DataW.weights_mem_each hf hd n hn
theorem w_string {t : TypeId} {bytes : List UInt8} : bytes.length ∈ (DataW.lit (.string bytes) : DataW H).weights P t := by simp [DataW.weights]
end

theorem spot_none {W : World} {x : Addr} {v : Value} (h : W.cell? x = some v) : x.spot = none := by
  cases hs : x.spot with
  | none => rfl
  | some n =>
    unfold World.cell? at h
    split at h
    · rw [hs] at h; simp at h
    · cases h

theorem reach_is : reachBytes = 140737488351232 := by decide

/-- A slice of strings inside of what came in. -/
theorem strs_in {H : Type} {enc : TypeId × Value → H} {P : Program} {W : World} {base : Nat} {spare : Nat → Bool} {held : Bool} {t e : TypeId} {v : Value} {d : DataW H} {ps : List MemPlace} {fuel : Nat}
    (hu : P.underlying t = some (.slice e)) (he : P.underlying e = some .string) (hc : P.cellsOf e = 1) (hB : P.bytesOf e = 16) (hw : ∀ n ∈ d.weights P t, n ≤ reachBytes)
    (h : DataW.trod enc P W base spare held fuel t [v] = some (d, ps)) : ∃ ad n c ss, v = .slice ad n c ∧ RdsS W v ss ∧ (∀ s ∈ ss, s.size ≤ 140737488351232) ∧ ss.length * 16 ≤ 140737488351232 := by
  rw [reach_is] at hw
  rcases open_strings hu he hc h with ⟨hcs, _⟩ | ⟨x, l, c, ss, hcs, _, hl, hm, hz, hx, hcell, hws⟩
  · simp at hcs
    subst hcs
    exact ⟨none, 0, 0, [], rfl, rdsS_nil W, by simp, by simp⟩
  · simp at hcs
    subst hcs
    obtain ⟨hx, _⟩ := Prod.mk.inj hx
    subst hx
    have z := hw _ (w_len hu)
    rw [hB] at z
    have hl2 : l ≤ ss.length := by
      rw [hz]
      split
      · exact hl
      · exact Nat.le_refl _
    have h1 : (strs (H := H) (ss.take l)).length + (strs (H := H) (ss.drop l)).length = ss.length := by
      simp [strs]
      omega
    rw [h1] at z
    have htl : (ss.take l).length = l := by simp; omega
    refine ⟨some x, l, c, ss.take l, rfl, ?_, fun s hs => ?_, by rw [htl]; omega⟩
    · rcases Nat.eq_zero_or_pos l with h0 | h0
      · subst h0
        simp only [List.take_zero]
        exact rdsS_empty W x c
      · have hc0 := hcell 0 (by omega)
        have hx0 : x.add 0 = x := by unfold Addr.add; rw [if_pos rfl]
        rw [hx0] at hc0
        have hsp := spot_none hc0
        obtain ⟨b, off, sp⟩ := x
        simp only at hsp
        subst hsp
        have hlt := World.block_lt_of_cell? W _ hc0
        have hadd : ∀ i, (⟨b, off, none⟩ : Addr).add i = ⟨b, off + i, none⟩ := fun i => by unfold Addr.add; split <;> simp_all
        have := rdsS_mk (w := W) (ss := ss.take l) (b := b) (off := off) (cap := c) (by omega) hm hlt (fun i hi => by
          have hi' : i < l := by omega
          have := hcell i (by omega)
          rw [hadd] at this
          rw [this, List.getD_eq_getElem?_getD, List.getElem?_eq_getElem (show i < ss.length by omega)]
          simp)
        rw [htl] at this
        exact this
    · have hm2 : (DataW.lit (.string s.data.toList) : DataW H) ∈ strs (H := H) (ss.take l) := by
        unfold strs
        exact List.mem_map.2 ⟨s, hs, rfl⟩
      have := hw _ (w_elem hu hm2 _ w_string)
      simpa using this

theorem list4 : ∀ {l : List Value}, l.length = 4 → ∃ a b c d, l = [a, b, c, d]
  | [a, b, c, d], _ => ⟨a, b, c, d, rfl⟩
theorem list5 : ∀ {l : List Value}, l.length = 5 → ∃ a b c d e, l = [a, b, c, d, e]
  | [a, b, c, d, e], _ => ⟨a, b, c, d, e, rfl⟩

/-- A rule inside of what came in. -/
theorem rule_in {H : Type} {enc : TypeId × Value → H} {W : World} {base : Nat} {spare : Nat → Bool} {held : Bool} {cs : List Value} {d : DataW H} {ps : List MemPlace} {fuel : Nat} (hw : ∀ n ∈ d.weights Try.prog 51, n ≤ reachBytes)
    (h : DataW.trod enc Try.prog W base spare held fuel 51 cs = some (d, ps)) : ∃ (x : RC) (r : Rl), cs = encR x ∧ RdC (fun _ => True) W x r := by
  have he := Try.underlying51
  obtain ⟨y0, y1, y2, n, hx, hl, h0, h1, h2⟩ := trod_struct3 he h
  have hC : Try.prog.cellsOf 51 = 4 := by kernel_rfl
  have hl4 : cs.length = 4 := hl.trans hC
  clear hl
  obtain ⟨c0, c1, c2, c3, rfl⟩ := list4 hl4
  · clear hl4
    have k0 : Try.prog.cellsOf 3 = 1 := by kernel_rfl
    have k1 : Try.prog.cellsOf 9 = 1 := by kernel_rfl
    have k2 : Try.prog.cellsOf 49 = 2 := by kernel_rfl
    simp only [k0, k1, k2, List.drop_zero, List.take_succ_cons, List.take_zero, List.drop_succ_cons] at h0 h1 h2
    obtain ⟨hd, _⟩ := Prod.mk.inj hx
    subst hd
    have ha := Try.underlying49
    obtain ⟨z0, z1, n2, hx2, _, g0, g1⟩ := trod_struct2 ha h2
    have k3 : Try.prog.cellsOf 46 = 1 := by kernel_rfl
    have k4 : Try.prog.cellsOf 47 = 1 := by kernel_rfl
    simp only [k3, k4, List.drop_zero, List.take_succ_cons, List.take_zero, List.drop_succ_cons] at g0 g1
    obtain ⟨p, e0, _⟩ := DataW.trod_int Try.underlying3 h0
    obtain ⟨m, e1, q1⟩ := DataW.trod_string Try.underlying9 h1
    obtain ⟨k, e2, _⟩ := DataW.trod_int Try.underlying46 g0
    have w1 : ∀ n ∈ y1.1.weights Try.prog 9, n ≤ reachBytes := fun n hn => hw n (w_field he (j := 1) rfl rfl n hn)
    have w2 : ∀ n ∈ y2.1.weights Try.prog 49, n ≤ reachBytes := fun n hn => hw n (w_field he (j := 2) rfl rfl n hn)
    rw [hx2] at w2
    have w3 : ∀ n ∈ z1.1.weights Try.prog 47, n ≤ reachBytes := fun n hn => w2 n (w_field ha (j := 1) rfl rfl n hn)
    obtain ⟨ad, l, c, ss, e3, hr, hs, hn⟩ := strs_in Try.underlying47 Try.underlying9 (by kernel_rfl) (by kernel_rfl) w3 g1
    simp only [List.cons.injEq, and_true] at e0 e1 e2
    subst e0 e1 e2 e3
    rw [q1.1] at w1
    have hm := w1 _ w_string
    rw [Array.length_toList, reach_is] at hm
    exact ⟨⟨p, m, k, ad, l, c⟩, ⟨p, m, k, ss⟩, rfl, ⟨rfl, rfl, rfl, ⟨hr, fun _ _ _ _ _ => trivial⟩, ⟨hm, hn, hs⟩⟩⟩

theorem encR_inj {x y : RC} (h : encR x = encR y) : x = y := by
  cases x; cases y
  simp only [encR, List.cons.injEq, Value.int.injEq, Value.string.injEq, Value.slice.injEq, true_and, and_true] at h
  obtain ⟨h1, h2, h3, h4, h5, h6⟩ := h
  subst h1 h2 h3 h4 h5 h6
  rfl

theorem rules_of {H : Type} {enc : TypeId × Value → H} {W : World} {base : Nat} {spare : Nat → Bool} {held : Bool} {t : TypeId} {a : Option Addr} {len cap : Nat} {d : DataW H} {ps : List MemPlace} (ht : Try.prog.underlying t = some (.slice 51)) (hw : ∀ n ∈ d.weights Try.prog t, n ≤ reachBytes)
    (h : DataW.Trod enc Try.prog W base spare held t (.slice a len cap) d ps) : ∃ L : List Rl, RdsR (fun _ => True) W (.slice a len cap) L ∧ L.length * 56 ≤ 140737488351232 := by
  obtain ⟨fuel, hf⟩ := h
  rcases open_slice ht hf with ⟨hcs, _⟩ | ⟨x, l, c, m, n, D, Pl, hcs, _, hl, hm, hmm, hx, hel⟩
  · simp [Value.cells] at hcs
    obtain ⟨rfl, rfl, rfl⟩ := hcs
    exact ⟨[], rdsR_nil _ W, by simp⟩
  · simp [Value.cells] at hcs
    obtain ⟨rfl, rfl, rfl⟩ := hcs
    obtain ⟨hx, _⟩ := Prod.mk.inj hx
    subst hx
    have hlm : len ≤ m := by rw [hmm]; split <;> omega
    have z := hw _ (w_len ht)
    rw [show Try.prog.bytesOf 51 = 56 by kernel_rfl, reach_is] at z
    simp only [List.length_map, List.length_range] at z
    have hC : Try.prog.cellsOf 51 = 4 := by kernel_rfl
    rw [hC] at hel
    have each : ∀ i, i < len → ∃ q : RC × Rl, RdC (fun _ => True) W q.1 q.2 ∧ W.cell? (x.add (i * 4)) = some (.int .i64 q.1.p) ∧ W.cell? (x.add (i * 4 + 1)) = some (.string q.1.m) ∧ W.cell? (x.add (i * 4 + 2)) = some (.int .i64 q.1.k) ∧ W.cell? (x.add (i * 4 + 3)) = some (.slice q.1.a q.1.n q.1.c) := by
      intro i hi
      obtain ⟨cs', h1, h2⟩ := hel i (by omega)
      obtain ⟨y, r, rfl, hr⟩ := rule_in (fun n hn => hw n (w_elem ht (List.mem_map.2 ⟨i, List.mem_range.2 hi, rfl⟩) n hn)) h2
      obtain ⟨_, _, hcell⟩ := World.cells?_some h1
      have g0 := hcell 0 (by decide)
      have g1 := hcell 1 (by decide)
      have g2 := hcell 2 (by decide)
      have g3 := hcell 3 (by decide)
      rw [add_add] at g0 g1 g2 g3
      exact ⟨(y, r), hr, by simpa [encR] using g0, by simpa [encR] using g1, by simpa [encR] using g2, by simpa [encR] using g3⟩
    obtain ⟨q, hq⟩ := choose_lt each
    refine ⟨(List.range len).map fun i => (q i).2, ⟨(List.range len).map fun i => (q i).1, some x, len, cap, rfl, by simp, by simp, ⟨by omega, fun h => by cases h⟩, by omega, fun _ _ _ _ _ => trivial, fun i hi => ?_, fun i hi hi' => ?_⟩, ?_⟩
    · have hi' : i < len := by simpa using hi
      obtain ⟨_, c0, c1, c2, c3⟩ := hq i hi'
      have hc0 := (hq 0 (by omega)).2.1
      have hx0 : x.add (0 * 4) = x := by rw [Nat.zero_mul]; unfold Addr.add; rw [if_pos rfl]
      rw [hx0] at hc0
      have hsp := spot_none hc0
      obtain ⟨b, off, sp⟩ := x
      simp only at hsp
      subst hsp
      have hadd : ∀ i, (⟨b, off, none⟩ : Addr).add i = ⟨b, off + i, none⟩ := fun i => by unfold Addr.add; split <;> simp_all
      have hlt := World.block_lt_of_cell? W _ hc0
      rw [hadd] at c0 c1 c2 c3
      exact ⟨b, off, rfl, hlt, by simpa using c0, by simpa [Nat.add_assoc] using c1, by simpa [Nat.add_assoc] using c2, by simpa [Nat.add_assoc] using c3⟩
    · have hi' : i < len := by simpa using hi
      simpa using (hq i hi').1
    · rw [List.length_map, List.length_range]
      omega
end Go.Proofs.Ytlbelkjgaeaaeaa
/-
  A slice of changes that came in reads as changes, and is no longer than its weight allows.
-/
namespace Go.Proofs.Ytlbelkjgaeaaeaa
open Go.ChangeShapes Go.WideShapes Go.RowKit Go.Deep

theorem changes_of {H : Type} {enc : TypeId × Value → H} {W : World} {base : Nat} {spare : Nat → Bool} {held : Bool} {t : TypeId} {a : Option Addr} {len cap : Nat} {d : DataW H} {ps : List MemPlace} (ht : Try.prog.underlying t = some (.slice 53)) (hw : ∀ n ∈ d.weights Try.prog t, n ≤ reachBytes)
    (h : DataW.Trod enc Try.prog W base spare held t (.slice a len cap) d ps) : ∃ L : List (Int × Rl), RdsC (fun _ => True) W (.slice a len cap) L ∧ L.length * 64 ≤ 140737488351232 := by
  obtain ⟨fuel, hf⟩ := h
  rcases open_slice ht hf with ⟨hcs, _⟩ | ⟨x, l, c, m, n, D, Pl, hcs, _, hl, hm, hmm, hx, hel⟩
  · simp [Value.cells] at hcs
    obtain ⟨rfl, rfl, rfl⟩ := hcs
    exact ⟨[], rdsC_nil _ W, by simp⟩
  · simp [Value.cells] at hcs
    obtain ⟨rfl, rfl, rfl⟩ := hcs
    obtain ⟨hx, _⟩ := Prod.mk.inj hx
    subst hx
    have hlm : len ≤ m := by rw [hmm]; split <;> omega
    have z := hw _ (w_len ht)
    rw [show Try.prog.bytesOf 53 = 64 by kernel_rfl, reach_is] at z
    simp only [List.length_map, List.length_range] at z
    have hC : Try.prog.cellsOf 53 = 5 := by kernel_rfl
    rw [hC] at hel
    have each : ∀ i, i < len → ∃ q : Int × RC × Rl, RdC (fun _ => True) W q.2.1 q.2.2 ∧ W.cell? (x.add (i * 5)) = some (.int .i64 q.1) ∧ W.cell? (x.add (i * 5 + 1)) = some (.int .i64 q.2.1.p) ∧ W.cell? (x.add (i * 5 + 2)) = some (.string q.2.1.m) ∧ W.cell? (x.add (i * 5 + 3)) = some (.int .i64 q.2.1.k) ∧ W.cell? (x.add (i * 5 + 4)) = some (.slice q.2.1.a q.2.1.n q.2.1.c) := by
      intro i hi
      obtain ⟨cs', h1, h2⟩ := hel i (by omega)
      have he := Try.underlying53
      have hwi : ∀ n ∈ (D i).weights Try.prog 53, n ≤ reachBytes := fun n hn => hw n (w_elem ht (List.mem_map.2 ⟨i, List.mem_range.2 hi, rfl⟩) n hn)
      obtain ⟨y0, y1, n2, hx, hlc, h3, h4⟩ := trod_struct2 he h2
      obtain ⟨_, _, hcell⟩ := World.cells?_some h1
      have hl5 : cs'.length = 5 := hlc.trans hC
      clear hlc
      obtain ⟨c0, c1, c2, c3, c4, rfl⟩ := list5 hl5
      · clear hl5
        have k0 : Try.prog.cellsOf 45 = 1 := by kernel_rfl
        have k1 : Try.prog.cellsOf 51 = 4 := by kernel_rfl
        simp only [k0, k1, List.drop_zero, List.take_succ_cons, List.take_zero, List.drop_succ_cons] at h3 h4
        obtain ⟨k, e0, _⟩ := DataW.trod_int Try.underlying45 h3
        have hd := (Prod.mk.inj hx).1
        rw [hd] at hwi
        obtain ⟨y, r, e1, hr⟩ := rule_in (fun n hn => hwi n (w_field he (j := 1) rfl rfl n hn)) h4
        simp only [encR, List.cons.injEq, and_true] at e0 e1
        obtain ⟨rfl, rfl, rfl, rfl⟩ := e1
        subst e0
        have g0 := hcell 0 (by decide)
        have g1 := hcell 1 (by decide)
        have g2 := hcell 2 (by decide)
        have g3 := hcell 3 (by decide)
        have g4 := hcell 4 (by decide)
        rw [add_add] at g0 g1 g2 g3 g4
        exact ⟨(k, y, r), hr, by simpa using g0, by simpa using g1, by simpa using g2, by simpa using g3, by simpa using g4⟩
    obtain ⟨q, hq⟩ := choose_lt each
    refine ⟨(List.range len).map fun i => ((q i).1, (q i).2.2), ⟨(List.range len).map fun i => ((q i).1, (q i).2.1), some x, len, cap, rfl, by simp, by simp, ⟨by omega, fun h => by cases h⟩, by omega, fun _ _ _ _ _ => trivial, fun i hi => ?_, fun i hi hi' => ?_⟩, ?_⟩
    · have hi' : i < len := by simpa using hi
      obtain ⟨_, c0, c1, c2, c3, c4⟩ := hq i hi'
      have hc0 := (hq 0 (by omega)).2.1
      have hx0 : x.add (0 * 5) = x := by rw [Nat.zero_mul]; unfold Addr.add; rw [if_pos rfl]
      rw [hx0] at hc0
      have hsp := spot_none hc0
      obtain ⟨b, off, sp⟩ := x
      simp only at hsp
      subst hsp
      have hadd : ∀ i, (⟨b, off, none⟩ : Addr).add i = ⟨b, off + i, none⟩ := fun i => by unfold Addr.add; split <;> simp_all
      have hlt := World.block_lt_of_cell? W _ hc0
      rw [hadd] at c0 c1 c2 c3 c4
      exact ⟨b, off, rfl, hlt, by simpa using c0, by simpa [Nat.add_assoc] using c1, by simpa [Nat.add_assoc] using c2, by simpa [Nat.add_assoc] using c3, by simpa [Nat.add_assoc] using c4⟩
    · have hi' : i < len := by simpa using hi
      exact ⟨by simp, by simpa using (hq i hi').1⟩
    · rw [List.length_map, List.length_range]
      omega
end Go.Proofs.Ytlbelkjgaeaaeaa
/-
  A slice of acts that came in reads as acts.
-/
namespace Go.Proofs.Ytlbelkjgaeaaeaa
open Go.ChangeShapes Go.WideShapes Go.RowKit Go.Deep

/-- Changes inside of what came in. -/
theorem changes_in {H : Type} {enc : TypeId × Value → H} {W : World} {base : Nat} {spare : Nat → Bool} {held : Bool} {t : TypeId} {cs : List Value} {d : DataW H} {ps : List MemPlace} {fuel : Nat} (ht : Try.prog.underlying t = some (.slice 53)) (hw : ∀ n ∈ d.weights Try.prog t, n ≤ reachBytes)
    (h : DataW.trod enc Try.prog W base spare held fuel t cs = some (d, ps)) : ∃ (a : Option Addr) (l c : Nat) (L : List (Int × Rl)), cs = [.slice a l c] ∧ RdsC (fun _ => True) W (.slice a l c) L ∧ L.length * 64 ≤ 140737488351232 := by
  rcases open_slice ht h with ⟨hcs, _⟩ | ⟨x, l, c, m, n, D, Pl, hcs, _⟩
  · subst hcs
    obtain ⟨L, h1, h2⟩ := changes_of (a := none) (len := 0) (cap := 0) ht hw ⟨fuel, by simpa [Value.cells] using h⟩
    exact ⟨none, 0, 0, L, rfl, h1, h2⟩
  · subst hcs
    obtain ⟨L, h1, h2⟩ := changes_of (a := some x) (len := l) (cap := c) ht hw ⟨fuel, by simpa [Value.cells] using h⟩
    exact ⟨some x, l, c, L, rfl, h1, h2⟩

instance : Inhabited Opx := ⟨⟨0, [], 0, ⟨#[]⟩⟩⟩

/-- Acts that came in. -/
theorem ops_of {H : Type} {enc : TypeId × Value → H} {W : World} {base : Nat} {spare : Nat → Bool} {held : Bool} {t : TypeId} {a : Option Addr} {len cap : Nat} {d : DataW H} {ps : List MemPlace} (ht : Try.prog.underlying t = some (.slice 37)) (hw : ∀ n ∈ d.weights Try.prog t, n ≤ reachBytes)
    (h : DataW.Trod enc Try.prog W base spare held t (.slice a len cap) d ps) : ∃ os : List Opx, RdsOps W (.slice a len cap) os := by
  obtain ⟨fuel, hf⟩ := h
  rcases open_slice ht hf with ⟨hcs, _⟩ | ⟨x, l, c, m, n, D, Pl, hcs, _, hl, hm, hmm, hx, hel⟩
  · simp [Value.cells] at hcs
    obtain ⟨rfl, rfl, rfl⟩ := hcs
    exact ⟨[], none, 0, 0, rfl, rfl, Nat.zero_le _, fun i h => absurd h (Nat.not_lt_zero _)⟩
  · simp [Value.cells] at hcs
    obtain ⟨rfl, rfl, rfl⟩ := hcs
    obtain ⟨hx, _⟩ := Prod.mk.inj hx
    subst hx
    have hlm : len ≤ m := by rw [hmm]; split <;> omega
    have hC : Try.prog.cellsOf 37 = 4 := by kernel_rfl
    rw [hC] at hel
    have each : ∀ i, i < len → ∃ q : Opx × Value, RdsC (fun _ => True) W q.2 q.1.m ∧ q.1.m.length * 64 ≤ 140737488351232 ∧ q.1.hdr.size ≤ maxLen ∧ W.cell? (x.add (i * 4)) = some (.int .i64 q.1.k) ∧ W.cell? (x.add (i * 4 + 1)) = some q.2 ∧ W.cell? (x.add (i * 4 + 2)) = some (.int .u64 q.1.back) ∧ W.cell? (x.add (i * 4 + 3)) = some (.string q.1.hdr) := by
      intro i hi
      obtain ⟨cs', h1, h2⟩ := hel i (by omega)
      have he := Try.underlying37
      have hwi : ∀ n ∈ (D i).weights Try.prog 37, n ≤ reachBytes := fun n hn => hw n (w_elem ht (List.mem_map.2 ⟨i, List.mem_range.2 hi, rfl⟩) n hn)
      obtain ⟨y0, y1, y2, y3, n2, hx, hlc, g0, g1, g2, g3⟩ := Go.Joins.trod_struct4 he h2
      obtain ⟨_, _, hcell⟩ := World.cells?_some h1
      have hl4 : cs'.length = 4 := hlc.trans hC
      clear hlc
      obtain ⟨c0, c1, c2, c3, rfl⟩ := list4 hl4
      · clear hl4
        have k0 : Try.prog.cellsOf 3 = 1 := by kernel_rfl
        have k1 : Try.prog.cellsOf 35 = 1 := by kernel_rfl
        have k2 : Try.prog.cellsOf 31 = 1 := by kernel_rfl
        have k3 : Try.prog.cellsOf 9 = 1 := by kernel_rfl
        simp only [k0, k1, k2, k3, List.drop_zero, List.take_succ_cons, List.take_zero, List.drop_succ_cons] at g0 g1 g2 g3
        have hd := (Prod.mk.inj hx).1
        rw [hd] at hwi
        obtain ⟨k, e0, _⟩ := DataW.trod_int Try.underlying3 g0
        obtain ⟨ac, lc, cc, L, e1, hr, hL⟩ := changes_in Try.underlying35 (fun n hn => hwi n (w_field he (j := 1) rfl rfl n hn)) g1
        obtain ⟨bk, e2, _⟩ := DataW.trod_int Try.underlying31 g2
        obtain ⟨hd2, e3, q3⟩ := DataW.trod_string Try.underlying9 g3
        have w3 : ∀ n ∈ y3.1.weights Try.prog 9, n ≤ reachBytes := fun n hn => hwi n (w_field he (j := 3) rfl rfl n hn)
        rw [q3.1] at w3
        have hm3 := w3 _ w_string
        rw [Array.length_toList, reach_is] at hm3
        simp only [List.cons.injEq, and_true] at e0 e1 e2 e3
        subst e0 e1 e2 e3
        have p0 := hcell 0 (by decide)
        have p1 := hcell 1 (by decide)
        have p2 := hcell 2 (by decide)
        have p3 := hcell 3 (by decide)
        rw [add_add] at p0 p1 p2 p3
        refine ⟨(⟨k, L, bk, hd2⟩, .slice ac lc cc), hr, hL, ?_, by simpa using p0, by simpa using p1, by simpa using p2, by simpa using p3⟩
        have hm3 : hd2.size ≤ 140737488351232 := hm3
        show hd2.size ≤ maxLen
        unfold maxLen
        omega
    obtain ⟨q, hq⟩ := choose_lt each
    refine ⟨(List.range len).map fun i => (q i).1, some x, len, cap, rfl, by simp, by omega, fun i hi => ?_⟩
    have hi' : i < len := by simpa using hi
    obtain ⟨hr, hL, hh, c0, c1, c2, c3⟩ := hq i hi'
    have hc0 := (hq 0 (by omega)).2.2.2.1
    have hx0 : x.add (0 * 4) = x := by rw [Nat.zero_mul]; unfold Addr.add; rw [if_pos rfl]
    rw [hx0] at hc0
    have hsp := spot_none hc0
    obtain ⟨b, off, sp⟩ := x
    simp only at hsp
    subst hsp
    have hadd : ∀ i, (⟨b, off, none⟩ : Addr).add i = ⟨b, off + i, none⟩ := fun i => by unfold Addr.add; split <;> simp_all
    have hlt := World.block_lt_of_cell? W _ hc0
    rw [hadd] at c0 c1 c2 c3
    exact ⟨b, off, (q i).2, rfl, hlt, by simpa using c0, by simpa [Nat.add_assoc] using c1, by simpa [Nat.add_assoc] using c2, by simpa [Nat.add_assoc] using c3, by simpa using hr, by simpa using hL, by simpa using hh⟩
end Go.Proofs.Ytlbelkjgaeaaeaa
